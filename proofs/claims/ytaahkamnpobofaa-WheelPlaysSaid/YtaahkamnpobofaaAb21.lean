/- What the evaluator computes, the call comes to; texts; no condition. -/
import Derived.Test.YtaahkamnpobofaaAb19
/- The evaluator of closed calls: what it computes, the call comes to; no condition. -/
namespace Go.Ab
open Go.RowKit

/-! ### what is looked at ahead of use stays what it is -/
section
variable {R : Type}
theorem sNat_eq (n : Nat) (k : Nat → R) : sNat n k = k n := by cases n <;> rfl
theorem sInt_eq (n : Int) (k : Int → R) : sInt n k = k n := by cases n <;> simp [sInt, sNat_eq]
theorem sBool_eq (b : Bool) (k : Bool → R) : sBool b k = k b := by cases b <;> rfl
theorem sU8_eq (b : UInt8) (k : UInt8 → R) : sU8 b k = k b := by simp [sU8, sNat_eq]
theorem sBytes_eq (l : List UInt8) : ∀ (k : List UInt8 → R), sBytes l k = k l := by
  induction l with
  | nil => intro k; rfl
  | cons x xs ih => intro k; simp [sBytes, sU8_eq, ih]
theorem sStr_eq (s : ByteArray) (k : ByteArray → R) : sStr s k = k s := by
  obtain ⟨⟨l⟩⟩ := s
  simp [sStr, sBytes_eq]
theorem sVal1_eq (v : Value) (k : Value → R) : sVal1 v k = k v := by
  unfold sVal1; split <;> simp [sNat_eq, sInt_eq, sBool_eq, sStr_eq]
theorem sVals_eq (l : List Value) : ∀ (k : List Value → R), sVals l k = k l := by
  induction l with
  | nil => intro k; rfl
  | cons x xs ih => intro k; simp [sVals, sVal1_eq, ih]
theorem sVal_eq (v : Value) (k : Value → R) : sVal v k = k v := by
  unfold sVal; split <;> simp [sInt_eq, sBool_eq, sVal1_eq, sVals_eq]
theorem sPairs_eq (l : List (Value × Value)) : ∀ (k : List (Value × Value) → R), sPairs l k = k l := by
  induction l with
  | nil => intro k; rfl
  | cons x xs ih => intro k; obtain ⟨x, y⟩ := x; simp [sPairs, sVal_eq, ih]
theorem sBlk_eq (B : Blk) (k : Blk → R) : sBlk B k = k B := by
  unfold sBlk; split <;> simp [sVals_eq, sPairs_eq, sNat_eq]
theorem sEnd_eq (h : Hp) : ∀ (k : Hp → R), sEnd h k = k h := by
  induction h with
  | nil => intro k; rfl
  | cons x xs ih =>
    intro k
    cases xs with
    | nil => simp [sEnd, sBlk_eq]
    | cons y ys => simp only [sEnd, ih]
theorem sAt_eq (h : Hp) : ∀ (b : Nat) (k : Hp → R), sAt b h k = k h := by
  induction h with
  | nil => intro b k; cases b <;> rfl
  | cons x xs ih =>
    intro b k
    cases b with
    | zero => simp [sAt, sBlk_eq]
    | succ b => simp only [sAt, ih]
theorem sTo_eq (v : Value) (h : Hp) (k : Hp → R) : sTo v h k = k h := by
  unfold sTo; split <;> simp [sAt_eq]
theorem fixH_eq (ρ : Operand → Value) (op : Op) (v : Value) (h : Hp) (k : Hp → R) : fixH ρ op v h k = k h := by
  unfold fixH; split <;> (try split) <;> simp [sEnd_eq, sTo_eq]
end

/-! ### frames -/
theorem brec {α : Type} (a b : α) (c : Bool) : Bool.rec (motive := fun _ => α) a b c = if c = true then b else a := by cases c <;> rfl
namespace Tr
theorem get_nil (i : Nat) : get .nil i = any := rfl
theorem get_node (v : Value) (l r : Tr) (i : Nat) : get (.node v l r) i = if i = 0 then v else if i % 2 = 1 then get l (i / 2) else get r (i / 2 - 1) := by
  show Bool.rec (motive := fun _ => Value) (Bool.rec (motive := fun _ => Value) (get r (Nat.pred (Nat.div i 2))) (get l (Nat.div i 2)) (Nat.beq (Nat.mod i 2) 1)) v (Nat.beq i 0) = _
  rw [brec, brec]
  simp only [Nat.beq_eq]
  rfl
theorem sing_succ {R : Type} (n i : Nat) (x : Value) (k : Tr → R) : sing (n + 1) i x k = if i = 0 then k (.node x .nil .nil) else if i % 2 = 1 then sing n (i / 2) x (fun l => k (.node any l .nil)) else sing n (i / 2 - 1) x (fun r => k (.node any .nil r)) := by
  show Bool.rec (motive := fun _ => R) (Bool.rec (motive := fun _ => R) (sing n (Nat.pred (Nat.div i 2)) x (fun r => k (.node any .nil r))) (sing n (Nat.div i 2) x (fun l => k (.node any l .nil))) (Nat.beq (Nat.mod i 2) 1)) (k (.node x .nil .nil)) (Nat.beq i 0) = _
  rw [brec, brec]
  simp only [Nat.beq_eq]
  rfl
theorem sing_spec {R : Type} : ∀ (n i : Nat) (x : Value) (k : Tr → R), i + 1 < 2 ^ n → ∃ t, sing n i x k = k t ∧ ∀ j, get t j = if j = i then x else any := by
  intro n
  induction n with
  | zero => intro i x k h; simp at h
  | succ n ih =>
    intro i x k h
    rw [Nat.pow_succ] at h
    rw [sing_succ]
    split
    · rename_i h0
      subst h0
      refine ⟨_, rfl, fun j => ?_⟩
      rw [get_node]
      split
      · rfl
      · split <;> rfl
    · rename_i h0
      split
      · rename_i h1
        obtain ⟨t, e1, e2⟩ := ih (i / 2) x (fun l => k (.node any l .nil)) (by omega)
        refine ⟨_, e1, fun j => ?_⟩
        rw [get_node]
        split
        · rename_i hj; rw [if_neg (by omega)]
        · split
          · rw [e2]
            by_cases hji : j = i
            · rw [if_pos hji, if_pos (by omega)]
            · rw [if_neg hji, if_neg (by omega)]
          · rw [if_neg (by omega)]; rfl
      · rename_i h1
        obtain ⟨t, e1, e2⟩ := ih (i / 2 - 1) x (fun r => k (.node any .nil r)) (by omega)
        refine ⟨_, e1, fun j => ?_⟩
        rw [get_node]
        split
        · rename_i hj; rw [if_neg (by omega)]
        · split
          · rw [if_neg (by omega)]; rfl
          · rw [e2]
            by_cases hji : j = i
            · rw [if_pos hji, if_pos (by omega)]
            · rw [if_neg hji, if_neg (by omega)]
theorem putK_nil {R : Type} (i : Nat) (x : Value) (k : Tr → R) : putK .nil i x k = sing 10 i x k := rfl
theorem putK_node {R : Type} (v : Value) (l r : Tr) (i : Nat) (x : Value) (k : Tr → R) : putK (.node v l r) i x k = if i = 0 then k (.node x l r) else if i % 2 = 1 then putK l (i / 2) x (fun l => k (.node v l r)) else putK r (i / 2 - 1) x (fun r => k (.node v l r)) := by
  show Bool.rec (motive := fun _ => R) (Bool.rec (motive := fun _ => R) (putK r (Nat.pred (Nat.div i 2)) x (fun r => k (.node v l r))) (putK l (Nat.div i 2) x (fun l => k (.node v l r))) (Nat.beq (Nat.mod i 2) 1)) (k (.node x l r)) (Nat.beq i 0) = _
  rw [brec, brec]
  simp only [Nat.beq_eq]
  rfl
theorem putK_spec {R : Type} (t : Tr) : ∀ (i : Nat) (x : Value) (k : Tr → R), i < 1000 → ∃ t', putK t i x k = k t' ∧ ∀ j, get t' j = if j = i then x else get t j := by
  induction t with
  | nil =>
    intro i x k h
    obtain ⟨t, e1, e2⟩ := sing_spec 10 i x k (by omega)
    exact ⟨t, e1, e2⟩
  | node v l r ihl ihr =>
    intro i x k h
    rw [putK_node]
    split
    · rename_i h0
      subst h0
      refine ⟨_, rfl, fun j => ?_⟩
      rw [get_node, get_node]
      split <;> rfl
    · rename_i h0
      split
      · rename_i h1
        obtain ⟨t, e1, e2⟩ := ihl (i / 2) x (fun l => k (.node v l r)) (by omega)
        refine ⟨_, e1, fun j => ?_⟩
        rw [get_node, get_node]
        split
        · rename_i hj; rw [if_neg (by omega)]
        · split
          · rw [e2]
            by_cases hji : j = i
            · rw [if_pos hji, if_pos (by omega)]
            · rw [if_neg hji, if_neg (by omega)]
          · rw [if_neg (by omega)]
      · rename_i h1
        obtain ⟨t, e1, e2⟩ := ihr (i / 2 - 1) x (fun r => k (.node v l r)) (by omega)
        refine ⟨_, e1, fun j => ?_⟩
        rw [get_node, get_node]
        split
        · rename_i hj; rw [if_neg (by omega)]
        · split
          · rw [if_neg (by omega)]
          · rw [e2]
            by_cases hji : j = i
            · rw [if_pos hji, if_pos (by omega)]
            · rw [if_neg hji, if_neg (by omega)]
end Tr
theorem pOut_inv {R : Type} {n : Nat} {fr : Tr} {d : Option Tmp} {v : Value} {k : Tr → Option R} {r : R} (hn : n < 1000) (h : pOut n fr d v k = some r) : ∃ fr', k fr' = some r ∧ fr'.get = putF n fr.get d v := by
  cases d with
  | none => exact ⟨fr, h, rfl⟩
  | some d =>
    have h' : Bool.rec none (Tr.putK fr d v k) (Nat.ble (Nat.succ d) n) = some r := h
    rw [brec] at h'
    split at h'
    · rename_i hd
      have hd' := Nat.le_of_ble_eq_true hd
      obtain ⟨t, e1, e2⟩ := Tr.putK_spec fr d v k (by omega)
      refine ⟨t, by rw [← e1]; exact h', ?_⟩
      funext i
      rw [e2, putF_some, if_pos (Nat.lt_of_succ_le hd')]
    · cases h'

/-! ### the same values -/
theorem aEq_ok {a b : Option Addr} (h : aEq a b = true) : a = b := by
  unfold aEq at h
  split at h
  · rfl
  · simp at h; simp [h]
  · simp at h
theorem lEq_ok {f : Value → Value → Bool} (hf : ∀ a b, f a b = true → a = b) : ∀ (xs ys : List Value), lEq f xs ys = true → xs = ys := by
  intro xs
  induction xs with
  | nil => intro ys h; cases ys <;> simp_all [lEq]
  | cons x xs ih =>
    intro ys h
    cases ys with
    | nil => simp [lEq] at h
    | cons y ys => simp [lEq] at h; rw [hf _ _ h.1, ih _ h.2]
theorem vEq_ok : ∀ (d : Nat) (a b : Value), vEq d a b = true → a = b := by
  intro d
  induction d with
  | zero => intro a b h; simp [vEq] at h
  | succ d ih =>
    have hl := lEq_ok ih
    intro a b h
    simp only [vEq] at h
    split at h
    · simp at h; simp [h]
    · simp at h; simp [h]
    · rename_i s t
      simp at h
      obtain ⟨⟨s⟩⟩ := s
      obtain ⟨⟨t⟩⟩ := t
      simp at h; simp [h]
    · rw [aEq_ok h]
    · simp at h; simp [aEq_ok h.1.1, h.1.2, h.2]
    · rfl
    · simp at h; simp [h]
    · simp at h
      obtain ⟨⟨h1, h2⟩, h3⟩ := h
      rw [h1, Array.toList_inj.1 (hl _ _ h2), Array.toList_inj.1 (hl _ _ h3)]
    · rfl
    · rfl
    · simp at h; rw [h.1, ih _ _ h.2]
    · rw [Array.toList_inj.1 (hl _ _ h)]
    · rw [Array.toList_inj.1 (hl _ _ h)]
    · simp at h
theorem bEq_ok {a b : Blk} (h : bEq a b = true) : a = b := by
  unfold bEq at h
  split at h
  · simp at h
    obtain ⟨⟨h1, h2⟩, h3⟩ := h
    rw [h1, h2, lEq_ok (vEq_ok 4) _ _ h3]
  · rfl
  · simp at h

/-! ### operations that look -/
section
variable {P : Program} {n : Nat} {ops : Array Oper}
theorem rv_same {r : Option Value} {g g' : Hp} {v : Value} (h : rv g r = some (.val v g')) : g' = g := by
  cases r with
  | none => simp [rv] at h
  | some x => simp [rv] at h; exact h.2.symm
theorem buildSliceA_new {t : TypeId} {len : Nat} {parts : List (Nat × Value)} {h h' : Hp} {v : Value} (hA : buildSliceA P t len parts h = some (v, h')) : ∃ B, buildSliceA P t len parts [] = some (.slice (some ⟨0, 0, none⟩) len len, [B]) := by
  unfold buildSliceA at hA ⊢
  split at hA <;> try (simp at hA; done)
  rename_i e he
  try simp only [he]
  split at hA <;> try (simp at hA; done)
  rename_i sz z hs hz
  try simp only [hs, hz]
  split at hA <;> try (simp at hA; done)
  rename_i hc
  try rw [if_pos hc]
  split at hA <;> try (simp at hA; done)
  rename_i cs hcs
  exact ⟨_, rfl⟩
theorem makeSliceA_new {t : TypeId} {l c : Value} {h h' : Hp} {v : Value} (hA : makeSliceA P t l c h = some (v, h')) : ∃ a i j B, makeSliceA P t l c [] = some (.slice a i j, [B]) := by
  unfold makeSliceA at hA ⊢
  split at hA <;> try (simp at hA; done)
  rename_i e k1 l k2 c he
  try simp only [he]
  split at hA <;> try (simp at hA; done)
  rename_i sz by' zs z hs hz
  try simp only [hs, hz]
  split at hA <;> try (simp at hA; done)
  rename_i hc
  try rw [if_pos hc]
  exact ⟨_, _, _, _, rfl⟩
theorem convA_same {s d : TypeId} {x v : Value} {g g' : Hp} (hn : ∀ e u, P.underlying s = some .string → P.underlying d = some (.slice e) → x = .string u → P.underlying e = some (.int .u8) → u.size < 4611686018427387904 → False)
    (h : convA P s d x g = some (v, g')) : g' = g := by
  unfold convA at h
  split at h
  · simp at h; exact h.2.symm
  · simp at h; exact h.2.symm
  · rename_i e u h1 h2
    split at h
    · split at h
      · exact (hn _ _ h1 h2 rfl (by assumption) (by assumption)).elim
      · simp at h
    · simp at h
  · split at h
    · simp at h; exact h.2.symm
    · simp at h
  · split at h
    · simp at h; exact h.2.symm
    · simp at h
  · split at h
    · split at h
      · simp at h; exact h.2.symm
      · split at h
        · split at h
          · split at h
            · simp at h; exact h.2.symm
            · simp at h
          · simp at h
        · simp at h
    · simp at h
  · split at h
    · split at h
      · simp at h; exact h.2.symm
      · simp at h
    · simp at h
  · simp at h
theorem look_same {ρ : Operand → Value} {op : Op} (hc : cls op ≠ 2) (hn : newA P ρ op = none) {g g' : Hp} {v : Value} (h : opA P ρ op g = some (.val v g')) : g' = g := by
  cases op <;> try (first | (exact rv_same h) | (simp [cls] at hc; done) | (simp [opA] at h; done) | (simp at h; exact h.2.symm))
  case alloc t =>
    simp only [newA, Option.map_eq_none_iff] at hn
    simp [allocA, hn, rp] at h
  case box t x =>
    simp only [newA, Option.map_eq_none_iff] at hn
    simp [boxA, hn, rp] at h
  case buildSlice t k ps =>
    exfalso
    rw [opA_buildSlice] at h
    unfold rp at h
    obtain ⟨⟨v', h'⟩, hr, _⟩ := Option.map_eq_some_iff.1 h
    obtain ⟨B, hB⟩ := buildSliceA_new hr
    simp [newA, hB] at hn
  case makeSlice t l c =>
    exfalso
    rw [opA_makeSlice] at h
    unfold rp at h
    obtain ⟨⟨v', h'⟩, hr, _⟩ := Option.map_eq_some_iff.1 h
    obtain ⟨a, i, j, B, hB⟩ := makeSliceA_new hr
    simp [newA, hB] at hn
  case makeMap t r =>
    cases r with
    | none => simp [newA] at hn
    | some r => simp [opA] at h
  case makeFunc f a c =>
    cases f with
    | func f => simp at h; exact h.2.symm
    | _ => simp [opA] at h
  case convert s d x =>
    rw [opA_convert] at h
    unfold rp at h
    obtain ⟨⟨v', h'⟩, hr, he⟩ := Option.map_eq_some_iff.1 h
    simp at he
    obtain ⟨rfl, rfl⟩ := he
    refine convA_same (fun e u h1 h2 h3 h4 h5 => ?_) hr
    simp [newA, h1, h2, h3, h4, h5] at hn
  case call c =>
    obtain ⟨f, args, ts⟩ := c
    cases f with
    | builtin b =>
      have h2 : builtinA P b ts.toList (args.toList.map ρ) g = some (.val v g') := h
      unfold builtinA at h2
      split at h2 <;> first | (simp [cls] at hc; done) | exact rv_same h2 | (simp at h2; done)
    | _ => simp [cls] at hc
theorem cls_le (op : Op) : cls op ≤ 3 := by
  cases op <;> try (simp [cls]; done)
  rename_i c
  rcases cls_call c with h | h <;> omega
theorem cls1_new {op : Op} (hc : cls op = 1) (ρ : Operand → Value) : newA P ρ op = none := cls_new (by omega) ρ

/-! ### statements -/
/-- it ends so, and nowhere else -/
def Ends (e : Exit) (fr : Tr) (h : Hp) : QA := fun e' g h' => e' = e ∧ g = fr.get ∧ h' = h
def Is (r : Value) (h : Hp) : Value → Hp → Prop := fun r' h' => r' = r ∧ h' = h
structure RecOk (P : Program) (rec : Recs) : Prop where
  call : ∀ f args h r h', rec.call f args h = some (r, h') → EvA P f args (Is r h') h
  code : ∀ n c fr h e fr' h', n < 1000 → rec.code n c fr h = some (e, fr', h') → WpA P n c (Ends e fr' h') fr.get h

theorem WpA.weaken {c : Code} {Q : QA} {fr fr' : Fr} {h : Hp} (hw : WpA P n c Q fr' h) (hf : ∀ i, fr' i = fr i ∨ fr' i = any) : WpA P n c Q fr h := by
  intro r m μ w a hg hr hfr hd
  refine hw r m μ w a hg hr ⟨hfr.1, fun i => ?_⟩ hd
  rcases hf i with e | e
  · rw [e]; exact hfr.2 i
  · rw [e]; exact .any _
theorem loadE_inv {n : Nat} (hn : n < 1000) {g : Nat → Value} {k : Tr → Option (Value × Hp)} {r : Value × Hp} : ∀ (i : Nat) (t : Tr), loadE n g i t k = some r → ∃ t', k t' = some r ∧ ∀ j, t'.get j = if j < i then g j else t.get j := by
  intro i
  induction i with
  | zero => intro t h; exact ⟨t, h, fun j => by simp⟩
  | succ i ih =>
    intro t h
    obtain ⟨t1, e1, e2⟩ := pOut_inv hn h
    obtain ⟨t2, e3, e4⟩ := ih t1 e1
    have hi : i < n := by
      rcases Nat.lt_or_ge i n with h' | h'
      · exact h'
      · have h2 : Bool.rec none (Tr.putK t i (g i) fun t => loadE n g i t k) (Nat.ble (Nat.succ i) n) = some r := h
        rw [brec, if_neg (by intro hb; have := Nat.le_of_ble_eq_true hb; omega)] at h2
        cases h2
    refine ⟨t2, e3, fun j => ?_⟩
    rw [e4, e2, putF_some, if_pos hi]
    by_cases h1 : j < i
    · rw [if_pos h1, if_pos (by omega)]
    · rw [if_neg h1]
      by_cases h2 : j = i
      · rw [if_pos h2, if_pos (by omega), h2]
      · rw [if_neg h2, if_neg (by omega)]
theorem psE_inv {n : Nat} (hn : n < 1000) {k : Tr → Option (Value × Hp)} {r : Value × Hp} : ∀ (ps : List (Tmp × Value)) (t : Tr), psE n ps t k = some r → ∃ t', k t' = some r ∧ t'.get = ps.foldl (fun fr p => putF n fr (some p.1) p.2) t.get := by
  intro ps
  induction ps with
  | nil => intro t h; exact ⟨t, h, rfl⟩
  | cons p ps ih =>
    intro t h
    obtain ⟨d, v⟩ := p
    obtain ⟨t1, e1, e2⟩ := pOut_inv hn h
    obtain ⟨t2, e3, e4⟩ := ih t1 e1
    exact ⟨t2, e3, by rw [e4, e2]; rfl⟩
theorem foldl_weak (n : Nat) : ∀ (ps : List (Tmp × Value)) (f g : Fr), (∀ i, f i = g i ∨ f i = any) → ∀ i, (ps.foldl (fun fr p => putF n fr (some p.1) p.2) f) i = (ps.foldl (fun fr p => putF n fr (some p.1) p.2) g) i ∨ (ps.foldl (fun fr p => putF n fr (some p.1) p.2) f) i = any := by
  intro ps
  induction ps with
  | nil => intro f g h; exact h
  | cons p ps ih =>
    intro f g h
    refine ih _ _ fun i => ?_
    show putF n f (some p.1) p.2 i = putF n g (some p.1) p.2 i ∨ putF n f (some p.1) p.2 i = any
    rw [putF_some, putF_some]
    by_cases hi : i = p.1
    · simp [hi]
    · rw [if_neg hi, if_neg hi]; exact h i
theorem roundE_ok {rec : Recs} (hrec : RecOk P rec) {b : Nat} {args : List Value} {h : Hp} {r : Value} {h' : Hp} (he : roundE rec b args h = some (r, h')) : RoundA P b args (Is r h') h := by
  unfold roundE at he
  split at he
  case h_2 => cases he
  rename_i L hB
  split at he
  case h_2 => cases he
  rename_i hr1 hr2
  cases hc : (Nat.beq args.length L.ps.size && Nat.ble (Nat.succ L.n) 1000) with
  | false => rw [hc] at he; cases he
  | true =>
    rw [hc] at he
    simp only [cond_true] at he
    simp only [Bool.and_eq_true, Nat.beq_eq] at hc
    have hn : L.n < 1000 := Nat.le_of_ble_eq_true hc.2
    obtain ⟨t1, e1, e2⟩ := loadE_inv hn _ _ he
    obtain ⟨t2, e3, e4⟩ := psE_inv hn _ _ e1
    have hw : ∀ i, t2.get i = putPs L args i ∨ t2.get i = any := by
      rw [e4]
      refine foldl_weak L.n _ _ _ fun i => ?_
      rw [e2]
      by_cases hi : i < L.n
      · exact .inl (by rw [if_pos hi])
      · exact .inr (by rw [if_neg hi]; rfl)
    refine ⟨L, hB, hc.1, hr1, hr2, WpA.weaken ?_ hw⟩
    split at e3
    case h_2 => cases e3
    rename_i t3 h1 hc1
    refine (hrec.code _ _ _ _ _ _ _ hn hc1).mono ?_
    rintro e g h'' ⟨rfl, rfl, rfl⟩
    split at e3
    case h_2 => cases e3
    rename_i L1 hB1
    split at e3
    case h_2 => cases e3
    rename_i hst
    split at e3
    case h_2 => cases e3
    rename_i e _ h2 hc2
    refine ⟨rfl, L1, hB1, hst, (hrec.code _ _ _ _ _ _ _ hn hc2).mono ?_⟩
    rintro e' g h3 ⟨rfl, rfl, rfl⟩
    split at e3
    case h_2 => cases e3
    rename_i L2 hB2
    refine ⟨L2, hB2, ?_⟩
    split at e3
    · rw [sAt_eq] at e3; simp at e3; exact ⟨e3.1, e3.2⟩
    · rw [sAt_eq] at e3; simp at e3; exact ⟨e3.1, e3.2⟩
    · rw [sAt_eq] at e3; simp at e3; exact ⟨e3.1, e3.2⟩
    · cases e3
/-! ### operations, read once -/
theorem lget_eq {α : Type} (l : List α) : ∀ i, lget l i = l[i]? := by
  induction l with
  | nil => intro i; rfl
  | cons x l ih => intro i; cases i with
    | zero => rfl
    | succ i => exact ih i
theorem load1_ok {t : TypeId} {p v : Value} {g : Hp} (ht : aggT P t = some false) (h : load1 p g = some v) : loadA P t p g = some v := by
  unfold load1 at h
  split at h <;> try (simp at h; done)
  split at h <;> try (simp at h; done)
  rename_i hb
  rw [lget_eq] at h hb
  unfold loadA
  simp only [hb, ht, h]
theorem loadN_ok {t : TypeId} {k : Nat} {p v : Value} {g : Hp} (ht : aggT P t = some true) (hs : sizeT P t = some k) (h : loadN k p g = some v) : loadA P t p g = some v := by
  unfold loadN at h
  split at h <;> try (simp at h; done)
  split at h <;> try (simp at h; done)
  rename_i hb
  rw [lget_eq] at hb
  rename_i b o x cs ro op
  cases hl : Nat.ble (o + k) cs.length with
  | false => rw [hl] at h; simp at h
  | true =>
    rw [hl] at h
    unfold loadA
    simp only [hb, ht, hs]
    rw [if_pos (Nat.le_of_ble_eq_true hl)]
    exact h
theorem loadM_ok {t : TypeId} {p v : Value} {g : Hp} (h : loadM P t p g = some v) : loadA P t p g = some v := by
  unfold loadM at h
  split at h
  · exact load1_ok (by assumption) h
  · split at h
    · exact loadN_ok (by assumption) (by assumption) h
    · simp at h
  · simp at h
theorem idxM_ok {t e : TypeId} {z : Nat} {x i v : Value} (ht : P.underlying t = some (.slice e)) (hz : sizeT P e = some z) (h : idxM z x i = some v) : indexAddrA P t x i = some v := by
  unfold idxM at h
  split at h <;> try (simp at h; done)
  split at h <;> try (simp at h; done)
  split at h <;> try (simp at h; done)
  rename_i b o n c i' k i j
  cases hl : Nat.ble (Nat.succ j) n with
  | false => rw [hl] at h; simp at h
  | true =>
    rw [hl] at h
    have := Nat.le_of_ble_eq_true hl
    unfold indexAddrA
    simp only [ht, hz]
    rw [if_pos ⟨by simp, by simp; omega⟩]
    exact h
theorem bget (l : List UInt8) (j : Nat) : (ByteArray.mk ⟨l⟩)[j]? = l[j]? := by
  by_cases h : j < l.length
  · rw [getElem?_pos (ByteArray.mk ⟨l⟩) j h, List.getElem?_eq_getElem h]; rfl
  · rw [getElem?_neg (ByteArray.mk ⟨l⟩) j h, List.getElem?_eq_none (Nat.le_of_not_lt h)]
theorem idxS_ok {t : TypeId} {x i v : Value} (ht : P.underlying t = some .string) (h : idxS x i = some v) : indexA P t x i = some v := by
  unfold idxS at h
  split at h <;> try (simp at h; done)
  split at h <;> try (simp at h; done)
  split at h <;> try (simp at h; done)
  split at h <;> try (simp at h; done)
  rename_i l _ k _ j _ b hb
  rw [lget_eq] at hb
  unfold indexA
  simp only [ht]
  rw [if_pos (by simp)]
  simp at h
  subst h
  have : (ByteArray.mk ⟨l⟩)[(Int.ofNat j).toNat]? = some b := by rw [← hb]; exact bget l j
  rw [this]; rfl
theorem wrap_small (k : IntKind) {j : Nat} (h : j ≤ 127) : k.wrap (.ofNat j) = .ofNat j := by
  cases k <;> simp [IntKind.wrap] <;> omega
theorem wrapM_eq (k : IntKind) (n : Int) : wrapM k n = k.wrap n := by
  unfold wrapM
  split
  · rename_i j
    cases hl : Nat.ble j 127 with
    | false => rfl
    | true => exact (wrap_small k (Nat.le_of_ble_eq_true hl)).symm
  · rfl
theorem cmpM_ok {f : Int → Int → Bool} {slow : Value → Value → Option Value} (hs : ∀ k n m, slow (.int k n) (.int k m) = some (.bool (f n m))) {a b v : Value} (h : cmpM f slow a b = some v) : slow a b = some v := by
  unfold cmpM at h
  split at h
  · split at h
    · rename_i k n _ k' m
      by_cases hk : k = k'
      · subst hk; rw [hs]; simpa using h
      · simp [hk] at h
    · exact h
  · exact h
theorem arM_ok {f : IntKind → Int → Int → Int} {slow : Value → Value → Option Value} (hs : ∀ k n m, slow (.int k n) (.int k m) = some (.int k (f k n m))) {a b v : Value} (h : arM f slow a b = some v) : slow a b = some v := by
  unfold arM at h
  split at h
  · split at h
    · rename_i k n _ k' m
      by_cases hk : k = k'
      · subst hk; rw [hs]; simpa using h
      · simp [hk] at h
    · exact h
  · exact h
theorem binM_ok {op : BinOp} {t : TypeId} {x y : Operand} {f : Value → Value → Option Value} (h : binM P op t x y = some f) {a b v : Value} (hv : f a b = some v) : binA P op t x y a b = some v := by
  cases op <;> simp only [binM, Option.some.injEq] at h <;> subst h <;> first
    | exact hv
    | exact cmpM_ok (fun k n m => by simp [binA, intA]) hv
    | exact arM_ok (fun k n m => by simp [binA, intA, wrapM_eq]) hv
theorem rv_mono {g : Hp} {a b : Option Value} {r : Res} (hab : ∀ v, a = some v → b = some v) (h : rv g a = some r) : rv g b = some r := by
  unfold rv at h ⊢
  obtain ⟨v, h1, h2⟩ := Option.map_eq_some_iff.1 h
  rw [hab v h1]; simpa using h2
theorem opM_ok {o : Op} {f : RunM} (h : opM P o = some f) {ρ : Operand → Value} {g : Hp} {r : Res} (hr : f ρ g = some r) : opA P ρ o g = some r := by
  unfold opM at h
  split at h
  · simp at h; subst h; rw [opA_load]; exact rv_mono (fun _ => loadM_ok) hr
  · split at h
    · rename_i hb; simp at h; subst h; rw [opA_binOp]; exact rv_mono (fun _ => binM_ok hb) hr
    · simp at h
  · split at h
    · split at h
      · simp at h; subst h; rw [opA_indexAddr]; exact rv_mono (fun _ => idxM_ok (by assumption) (by assumption)) hr
      · simp at h
    · simp at h; subst h; rw [opA_indexAddr]; exact hr
  · split at h
    · simp at h; subst h; rw [opA_index]; exact rv_mono (fun _ => idxS_ok (by assumption)) hr
    · simp at h; subst h; rw [opA_index]; exact hr
  all_goals (simp at h; subst h; exact hr)
theorem fixM_eq {R : Type} (f : FixK) (ρ : Operand → Value) (v : Value) (h : Hp) (k : Hp → R) : fixM f ρ v h k = k h := by
  cases f <;> simp [fixM, sEnd_eq, sTo_eq]
theorem guardM_ok {o : Oper} {g : Option (Tmp × Bool)} (h : guardM ops o = some g) {fr : Fr} {b : Bool} (hw : wantM g fr = some b) : wantA ops o fr = some b := by
  unfold guardM at h
  unfold wantA
  cases hg : o.guard with
  | none => rw [hg] at h; simp only [Option.some.injEq] at h; subst h; exact hw
  | some jw =>
    obtain ⟨j, want⟩ := jw
    rw [hg] at h
    simp only at h ⊢
    cases hd : (ops[j]?).bind (·.dst) with
    | none => rw [hd] at h; simp at h
    | some d =>
      rw [hd] at h
      simp only [Option.some.injEq] at h
      subst h
      exact hw
theorem stepM_ok {rec : Recs} (hrec : RecOk P rec) (hn : n < 1000) {o : Oper} {run : RunM} (hrun : opM P o.op = some run) {f : FixK} {ih : Tr → Hp → Option (Tr × Hp)} {K : Fr → Hp → Prop} {fr' : Tr} {h' : Hp}
    (hih : ∀ t h1, ih t h1 = some (fr', h') → K t.get h1) {fr : Tr} {h : Hp} (hs : stepM rec n o.dst f run ih fr h = some (fr', h')) :
    match opA P (evalA fr.get) o.op h with
      | none => False
      | some (.val v h1) => K (putF n fr.get o.dst v) h1
      | some (.enter g args) => EvA P g args (fun r h1 => K (putF n fr.get o.dst r) h1) h
      | some (.round b args) => RoundA P b args (fun r h1 => K (putF n fr.get o.dst r) h1) h := by
  unfold stepM at hs
  split at hs
  · rename_i v h1 hop
    rw [opM_ok hrun hop]
    rw [sVal_eq, fixM_eq] at hs
    obtain ⟨t, e1, e2⟩ := pOut_inv hn hs
    simp only
    rw [← e2]
    exact hih _ _ e1
  · rename_i g args hop
    rw [opM_ok hrun hop]
    split at hs
    · rename_i r h1 hc
      obtain ⟨t, e1, e2⟩ := pOut_inv hn hs
      refine (hrec.call _ _ _ _ _ hc).mono ?_
      rintro r' h'' ⟨rfl, rfl⟩
      rw [← e2]
      exact hih _ _ e1
    · cases hs
  · rename_i b args hop
    rw [opM_ok hrun hop]
    split at hs
    · rename_i r h1 hc
      obtain ⟨t, e1, e2⟩ := pOut_inv hn hs
      refine (roundE_ok hrec hc).mono ?_
      rintro r' h'' ⟨rfl, rfl⟩
      rw [← e2]
      exact hih _ _ e1
    · cases hs
  · cases hs
theorem compM_ok {o : Oper} {m : MOp} (h : compM P ops o = some m) :
    (∃ g x, m = .mov g o.dst x ∧ guardM ops o = some g ∧ ∀ ρ h, opA P ρ o.op h = some (.val (ρ x) h)) ∨
    (∃ g f run, m = .op g o.dst f run ∧ guardM ops o = some g ∧ opM P o.op = some run) := by
  unfold compM at h
  split at h
  · simp at h
  rename_i g hg
  split at h
  · rename_i x hx; simp at h; exact .inl ⟨g, x, h.symm, hg, fun ρ h => by rw [hx]; exact opA_move x⟩
  · rename_i x hx; simp at h; exact .inl ⟨g, x, h.symm, hg, fun ρ h => by rw [hx]; exact opA_assign x⟩
  · split at h
    · rename_i run hrun; simp at h; exact .inr ⟨g, _, run, h.symm, hg, hrun⟩
    · simp at h
theorem opsE_ok {rec : Recs} (hrec : RecOk P rec) (hn : n < 1000) : ∀ (l : List Oper) (fr : Tr) (h : Hp) (fr' : Tr) (h' : Hp), opsE P rec n ops l fr h = some (fr', h') → runOps P n ops (fun g h'' => g = fr'.get ∧ h'' = h') l fr.get h := by
  intro l
  induction l with
  | nil => intro fr h fr' h' he; have : some (fr, h) = some (fr', h') := he; simp at this; simp [runOps, this]
  | cons o l ih =>
    intro fr h fr' h' he
    have he' : Option.rec (motive := fun _ => Option (Tr × Hp)) none (fun m => doM rec n m (opsE P rec n ops l) fr h) (compM P ops o) = some (fr', h') := he
    clear he
    simp only [runOps]
    have skip : pOut n fr o.dst sk (fun fr => opsE P rec n ops l fr h) = some (fr', h') → wantA ops o fr.get = some false →
        runOps P n ops (fun g h'' => g = fr'.get ∧ h'' = h') l (putF n fr.get o.dst sk) h := by
      intro hp _
      obtain ⟨t, e1, e2⟩ := pOut_inv hn hp
      rw [← e2]
      exact ih _ _ _ _ e1
    cases hm : compM P ops o with
    | none => rw [hm] at he'; cases he'
    | some m =>
      rw [hm] at he'
      have he2 : doM rec n m (opsE P rec n ops l) fr h = some (fr', h') := he'
      clear he'
      rcases compM_ok hm with ⟨g, x, rfl, hg, hop⟩ | ⟨g, f, run, rfl, hg, hop⟩
      · have go : pOut n fr o.dst (evalA fr.get x) (fun fr => opsE P rec n ops l fr h) = some (fr', h') →
            runOps P n ops (fun g h'' => g = fr'.get ∧ h'' = h') l (putF n fr.get o.dst (evalA fr.get x)) h := by
          intro hp
          obtain ⟨t, e1, e2⟩ := pOut_inv hn hp
          rw [← e2]
          exact ih _ _ _ _ e1
        cases g with
        | none =>
          have hw := guardM_ok hg (fr := fr.get) (b := true) rfl
          rw [hw]
          refine ⟨fun _ => ?_, fun h => by simp at h⟩
          rw [hop]
          exact go he2
        | some g =>
          simp only [doM] at he2
          split at he2
          · rename_i hb
            rw [guardM_ok hg hb]
            refine ⟨fun _ => ?_, fun h => by simp at h⟩
            rw [hop]
            exact go he2
          · rename_i hb
            have hw := guardM_ok hg hb
            rw [hw]
            exact ⟨fun h => by simp at h, fun _ => skip he2 hw⟩
          · cases he2
      · cases g with
        | none =>
          have hw := guardM_ok hg (fr := fr.get) (b := true) rfl
          rw [hw]
          refine ⟨fun _ => ?_, fun h => by simp at h⟩
          exact stepM_ok (K := fun f h1 => runOps P n ops (fun g h'' => g = fr'.get ∧ h'' = h') l f h1) hrec hn hop (fun t h1 => ih t h1 fr' h') he2
        | some g =>
          simp only [doM] at he2
          split at he2
          · rename_i hb
            rw [guardM_ok hg hb]
            refine ⟨fun _ => ?_, fun h => by simp at h⟩
            exact stepM_ok (K := fun f h1 => runOps P n ops (fun g h'' => g = fr'.get ∧ h'' = h') l f h1) hrec hn hop (fun t h1 => ih t h1 fr' h') he2
          · rename_i hb
            have hw := guardM_ok hg hb
            rw [hw]
            exact ⟨fun h => by simp at h, fun _ => skip he2 hw⟩
          · cases he2
/-- what each operation waits for, at least -/
def ancT (ops : Array Oper) : List (List Nat) := (List.range ops.size).map (preds ops)
theorem ancT_get {i : Nat} (hi : i < ops.size) : (ancT ops).getD i [] = preds ops i := by
  simp [ancT, List.getD_eq_getElem?_getD, hi]
theorem ancT_ok (ops : Array Oper) : ancOk ops (ancT ops) = true := by
  refine List.all_eq_true.2 fun i hi => ?_
  have hi := List.mem_range.1 hi
  rw [ancT_get hi]
  refine List.all_eq_true.2 fun j hj => ?_
  obtain ⟨k, hk⟩ : ∃ k, ops.size = k + 1 := ⟨ops.size - 1, by omega⟩
  rw [hk, List.contains_iff_mem]
  simp only [ancs, List.mem_flatMap]
  exact ⟨j, hj, by simp⟩
theorem drE_ok {rec : Recs} (hrec : RecOk P rec) (hn : n < 1000) : ∀ (l : List Nat) (fr : Tr) (h : Hp) (C : List Nat → Hp → Bool) (C' : List Nat → Hp → Prop) (fr' : Tr) (h' : Hp), (∀ A g, C A g = true → C' A g) → drE P rec n ops l fr h C = some (fr', h') →
    drC P n ops (ancT ops) (fun g h'' => g = fr'.get ∧ h'' = h') l fr.get h C' := by
  intro l
  induction l with
  | nil => intro fr h C C' fr' h' hC he; have : some (fr, h) = some (fr', h') := he; simp at this; simp [drC, this]
  | cons i l ih =>
    intro fr h C C' fr' h' hC he
    simp only [drE] at he
    simp only [drC]
    split at he
    · cases he
    rename_i o ho
    rw [ho]
    simp only
    have hil : i < ops.size := (Array.getElem?_eq_some_iff.1 ho).1
    have look : cls o.op ≠ 2 → newA P (evalA fr.get) o.op = none → lookE P n ops i o (drE P rec n ops l) fr h C = some (fr', h') →
        seen (opA P (evalA fr.get) o.op h) (fun v h'' => h'' = h ∧ drC P n ops (ancT ops) (fun g h'' => g = fr'.get ∧ h'' = h') l (putF n fr.get o.dst v) h (fun A g => C' A g ∧ (A.contains i = true ∨ opA P (evalA fr.get) o.op g = some (.val v g)))) .mk := by
      intro h1 h2 hl
      unfold lookE at hl
      split at hl
      · rename_i v g hop
        have hg := look_same h1 h2 hop
        subst hg
        rw [sVal_eq] at hl
        obtain ⟨t, e1, e2⟩ := pOut_inv hn hl
        rw [hop]
        simp only [seen_val, true_and]
        rw [← e2]
        refine ih _ _ _ _ _ _ (fun A g hg => ?_) e1
        simp only [Bool.and_eq_true, Bool.or_eq_true] at hg
        refine ⟨hC A g hg.1, hg.2.imp id fun hs => ?_⟩
        unfold seesE at hs
        split at hs
        · rename_i v' g' hop'
          have := look_same h1 h2 hop'
          subst this
          rw [hop', vEq_ok 5 _ _ hs]
        · simp at hs
      · cases hl
    split at he
    · cases he
    · rename_i hw
      rw [hw]
      obtain ⟨t, e1, e2⟩ := pOut_inv hn he
      simp only [wanted_false]
      rw [← e2]
      exact ih _ _ _ _ _ _ hC e1
    · rename_i hw
      rw [hw]
      simp only [wanted_true]
      have hcl := cls_le o.op
      split at he
      · rename_i hc
        rw [hc]
        simp only
        split at he
        · rename_i v g hop
          have hg := look_same (P := P) (by omega) (cls_new (by omega) _) hop
          subst hg
          rw [sVal_eq] at he
          obtain ⟨t, e1, e2⟩ := pOut_inv hn he
          rw [hop]
          simp only [seen_val, true_and]
          rw [← e2]
          exact ih _ _ _ _ _ _ hC e1
        · cases he
      · rename_i hc
        rw [hc]
        exact look (by omega) (cls1_new hc _) he
      · rename_i hc
        rw [hc]
        simp only
        cases hef : isEff o.op with
        | false => rw [hef] at he; cases he
        | true =>
          rw [hef] at he
          simp only [cond_true] at he
          refine ⟨rfl, ?_⟩
          unfold actE at he
          rw [ancT_get hil]
          have fin : ∀ {v : Value} {h1 : Hp}, (bif C (preds ops i) h1 then pOut n fr o.dst v fun fr => drE P rec n ops l fr h1 C else none) = some (fr', h') →
              C' (preds ops i) h1 ∧ drC P n ops (ancT ops) (fun g h'' => g = fr'.get ∧ h'' = h') l (putF n fr.get o.dst v) h1 C' := by
            intro v h1 hb
            cases hCc : C (preds ops i) h1 with
            | false => rw [hCc] at hb; cases hb
            | true =>
              rw [hCc] at hb
              simp only [cond_true] at hb
              obtain ⟨t, e1, e2⟩ := pOut_inv hn hb
              refine ⟨hC _ _ hCc, ?_⟩
              rw [← e2]
              exact ih _ _ _ _ _ _ hC e1
          split at he
          · rename_i v h1 hop
            rw [sVal_eq, fixH_eq] at he
            rw [hop]
            simp only [after_val]
            exact fin he
          · rename_i f args hop
            split at he
            · rename_i r h1 hcl
              rw [hop]
              refine after_call (hrec.call _ _ _ _ _ hcl) ?_
              rintro r' h'' ⟨rfl, rfl⟩
              exact fin he
            · cases he
          · rename_i b args hop
            split at he
            · rename_i r h1 hcl
              rw [hop]
              refine after_round ((roundE_ok hrec hcl).mono ?_)
              rintro r' h'' ⟨rfl, rfl⟩
              exact fin he
            · cases he
          · cases he
      · rename_i hc0 hc1 hc2
        have hc3 : cls o.op = 3 := by
          have g0 : cls o.op ≠ 0 := fun h => hc0 h
          have g1 : cls o.op ≠ 1 := fun h => hc1 h
          have g2 : cls o.op ≠ 2 := fun h => hc2 h
          omega
        rw [hc3]
        simp only
        split at he
        · rename_i B f hnew
          rw [hnew]
          simp only
          rw [sEnd_eq] at he
          cases hCc : C [] (h ++ [B]) with
          | false => rw [hCc] at he; cases he
          | true =>
            rw [hCc] at he
            simp only [cond_true, sVal_eq] at he
            obtain ⟨t, e1, e2⟩ := pOut_inv hn he
            refine ⟨hC _ _ hCc, ?_⟩
            rw [← e2]
            refine ih _ _ _ _ _ _ (fun A g hg => ?_) e1
            simp only [Bool.and_eq_true, Bool.or_eq_true] at hg
            refine ⟨hC A g hg.1, hg.2.imp id fun hs => ?_⟩
            unfold keptE at hs
            split at hs
            · rename_i B' hB'; rw [hB', bEq_ok hs]
            · simp at hs
        · rename_i hnew
          rw [hnew]
          exact look hc2 hnew he
theorem iterE_ok {c : Code} {f : Tr → Hp → Option (Exit × Tr × Hp)} (hf : ∀ fr h e fr' h', f fr h = some (e, fr', h') → WpA P n c (Ends e fr' h') fr.get h) : ∀ (k : Nat) (fr : Tr) (h : Hp) (e : Exit) (fr' : Tr) (h' : Hp), iterE f k fr h = some (e, fr', h') → roundsA P n c (Ends e fr' h') k fr.get h := by
  intro k
  induction k with
  | zero => intro fr h e fr' h' he; cases he
  | succ k ih =>
    intro fr h e fr' h' he
    simp only [iterE] at he
    simp only [roundsA]
    split at he
    · rename_i fr1 h1 hf1
      refine (hf _ _ _ _ _ hf1).mono ?_
      rintro e1 g h2 ⟨rfl, rfl, rfl⟩
      exact ih _ _ _ _ _ he
    · rename_i hne
      refine (hf _ _ _ _ _ he).mono ?_
      rintro e1 g h2 ⟨rfl, rfl, rfl⟩
      cases e1 with
      | normal => exact (hne _ _ he).elim
      | _ => exact ⟨rfl, rfl, rfl⟩
theorem codeE_ok (hm : P.follows .mixedOrders = true) {rec : Recs} (hrec : RecOk P rec) (hn : n < 1000) : ∀ (c : Code) (fr : Tr) (h : Hp) (e : Exit) (fr' : Tr) (h' : Hp), codeE P rec n c fr h = some (e, fr', h') → WpA P n c (Ends e fr' h') fr.get h := by
  intro c
  induction c with
  | skip => intro fr h e fr' h' he; simp [codeE] at he; obtain ⟨rfl, rfl, rfl⟩ := he; exact WpA.skip ⟨rfl, rfl, rfl⟩
  | region id ops draw =>
    intro fr h e fr' h' he
    cases draw with
    | false =>
      simp only [codeE] at he
      split at he
      · rename_i fr1 h1 ho
        simp at he
        obtain ⟨rfl, rfl, rfl⟩ := he
        refine (WpA.region (opsE_ok hrec hn _ _ _ _ _ ho)).mono ?_
        intro e g h2 hq
        cases e with
        | normal => exact ⟨rfl, hq.1, hq.2⟩
        | _ => exact hq.elim
      · cases he
    | true =>
      simp only [codeE] at he
      cases hp : planOk n ops (mkPlan ops ops.size []) with
      | false => rw [hp] at he; cases he
      | true =>
        rw [hp] at he
        simp only [cond_true] at he
        split at he
        · rename_i fr1 h1 ho
          simp at he
          obtain ⟨rfl, rfl, rfl⟩ := he
          refine WpA.drawnA (mkPlan ops ops.size []) (ancT ops) hm hp (ancT_ok ops) ?_
          have hd := drE_ok hrec hn _ _ _ (fun _ _ => true) (fun _ _ => True) _ _ (fun _ _ _ => trivial) ho
          have hk : normK (Ends .normal fr1 h1) = fun g h'' => g = fr1.get ∧ h'' = h1 := by
            funext g h''; simp [normK, Ends]
          rw [hk]; exact hd
        · cases he
  | seq x y ihx ihy =>
    intro fr h e fr' h' he
    simp only [codeE] at he
    refine WpA.seq ?_
    split at he
    · rename_i fr1 h1 h2
      refine (ihx _ _ _ _ _ h2).mono ?_
      rintro e1 g h3 ⟨rfl, rfl, rfl⟩
      exact ihy _ _ _ _ _ he
    · rename_i hne
      refine (ihx _ _ _ _ _ he).mono ?_
      rintro e1 g h3 ⟨rfl, rfl, rfl⟩
      cases e1 with
      | normal => exact (hne _ _ he).elim
      | _ => exact ⟨rfl, rfl, rfl⟩
  | cond c x y ihx ihy =>
    intro fr h e fr' h' he
    simp only [codeE] at he
    split at he
    · rename_i hc; exact WpA.cond hc (ihx _ _ _ _ _ he)
    · rename_i hc; exact WpA.cond hc (ihy _ _ _ _ _ he)
    · cases he
  | block id c ih =>
    intro fr h e fr' h' he
    simp only [codeE] at he
    refine WpA.block ?_
    split at he
    · rename_i id' fr1 h1 h2
      refine (ih _ _ _ _ _ h2).mono ?_
      rintro e1 g h3 ⟨rfl, rfl, rfl⟩
      simp only [blockQ]
      cases hb : Nat.beq id' id with
      | true =>
        rw [hb] at he
        simp at he
        obtain ⟨rfl, rfl, rfl⟩ := he
        rw [if_pos (Nat.eq_of_beq_eq_true hb)]
        exact ⟨rfl, rfl, rfl⟩
      | false =>
        rw [hb] at he
        simp at he
        obtain ⟨rfl, rfl, rfl⟩ := he
        rw [if_neg (Nat.ne_of_beq_eq_false hb)]
        exact ⟨rfl, rfl, rfl⟩
    · rename_i hne
      refine (ih _ _ _ _ _ he).mono ?_
      rintro e1 g h3 ⟨rfl, rfl, rfl⟩
      cases e1 with
      | exit id' => exact (hne _ _ _ he).elim
      | _ => exact ⟨rfl, rfl, rfl⟩
  | loop c ih =>
    intro fr h e fr' h' he
    simp only [codeE] at he
    exact WpA.rounds _ (iterE_ok ih _ _ _ _ _ _ he)
  | rangeFunc g ps x y _ _ =>
    intro fr h e fr' h' he
    simp only [codeE] at he
    split at he
    case h_2 => cases he
    rename_i gf first cap hg
    split at he
    case h_2 => cases he
    rename_i r1 h1 hc
    refine WpA.rangeFunc hg ?_
    intro L l1 l2 l3 l4 l5 l6 l7
    have hL : L = { st := .ready, pend := none, n := n, fr := fr.get, ps := ps, assign := x, body := y } := by
      cases L; simp_all
    rw [hL]
    refine (hrec.call _ _ _ _ _ hc).mono ?_
    rintro r' h'' ⟨rfl, rfl⟩
    split at he
    case h_2 => cases he
    rename_i L1 hB
    refine ⟨L1, hB, ?_⟩
    split at he
    · cases he
    · rename_i hp hst
      rw [sAt_eq] at he
      simp at he
      obtain ⟨rfl, rfl, rfl⟩ := he
      exact ⟨fun h => hst h, by rw [hp]; exact ⟨rfl, rfl, rfl⟩⟩
    · rename_i hp hst
      rw [sAt_eq] at he
      simp at he
      obtain ⟨rfl, rfl, rfl⟩ := he
      exact ⟨fun h => hst h, by rw [hp]; exact ⟨rfl, rfl, rfl⟩⟩
    · rename_i hp hst
      rw [sAt_eq] at he
      simp at he
      obtain ⟨rfl, rfl, rfl⟩ := he
      exact ⟨fun h => hst h, by rw [hp]; exact ⟨rfl, rfl, rfl⟩⟩
    · cases he
  | exit id => intro fr h e fr' h' he; simp [codeE] at he; obtain ⟨rfl, rfl, rfl⟩ := he; exact WpA.exit ⟨rfl, rfl, rfl⟩
  | scope c _ => intro fr h e fr' h' he; cases he
  | label l => intro fr h e fr' h' he; simp [codeE] at he; obtain ⟨rfl, rfl, rfl⟩ := he; exact WpA.label ⟨rfl, rfl, rfl⟩
  | goto l => intro fr h e fr' h' he; cases he
  | ret => intro fr h e fr' h' he; simp [codeE] at he; obtain ⟨rfl, rfl, rfl⟩ := he; exact WpA.ret ⟨rfl, rfl, rfl⟩
  | refuse why => intro fr h e fr' h' he; cases he
theorem argsE_inv {k : Tr → Option (Value × Hp)} {r : Value × Hp} (hn : n < 1000) : ∀ (vs : List Value) (i : Nat) (t : Tr), argsE n i vs t k = some r → i ≤ n → i + vs.length ≤ n ∧ ∃ t', k t' = some r ∧ ∀ j, t'.get j = if i ≤ j ∧ j < i + vs.length then vs.getD (j - i) any else t.get j := by
  intro vs
  induction vs with
  | nil => intro i t h hi; exact ⟨by simpa using hi, t, h, fun j => by rw [if_neg (by simp only [List.length_nil]; omega)]⟩
  | cons v vs ih =>
    intro i t h hi
    simp only [argsE, sVal_eq] at h
    have hlt : i < n := by
      rcases Nat.lt_or_ge i n with h' | h'
      · exact h'
      · have h2 : Bool.rec none (Tr.putK t i v fun fr => argsE n (i + 1) vs fr k) (Nat.ble (Nat.succ i) n) = some r := h
        rw [brec, if_neg (by intro hb; have := Nat.le_of_ble_eq_true hb; omega)] at h2
        cases h2
    obtain ⟨t1, e1, e2⟩ := pOut_inv hn h
    obtain ⟨h3, t2, e3, e4⟩ := ih (i + 1) t1 e1 hlt
    refine ⟨by simp; omega, t2, e3, fun j => ?_⟩
    rw [e4, e2, putF_some, if_pos hlt]
    simp only [List.length_cons]
    by_cases h1 : i + 1 ≤ j ∧ j < i + 1 + vs.length
    · rw [if_pos h1, if_pos (by omega), show j - i = (j - (i + 1)) + 1 by omega]
      simp [List.getD_eq_getElem?_getD]
    · rw [if_neg h1]
      by_cases h2 : j = i
      · subst h2; rw [if_pos rfl, if_pos (by omega)]; simp
      · rw [if_neg h2, if_neg (by omega)]
theorem runE_ok (hm : P.follows .mixedOrders = true) {rec : Recs} (hrec : RecOk P rec) {f : FuncId} {args : List Value} {h : Hp} {r : Value} {h' : Hp} (he : runE P rec f args h = some (r, h')) : EvA P f args (Is r h') h := by
  unfold runE at he
  split at he
  · cases he
  rename_i fn hf
  split at he
  · cases he
  rename_i c hb
  cases hc : (callable P f && Nat.ble (Nat.succ fn.ntmps) 1000) with
  | false => rw [hc] at he; cases he
  | true =>
    rw [hc] at he
    simp only [cond_true] at he
    simp only [Bool.and_eq_true] at hc
    have hn : fn.ntmps < 1000 := Nat.le_of_ble_eq_true hc.2
    have hname : (fn.name != "runtime.NumGoroutine") = true := by
      have := hc.1
      simp only [callable, hf, Bool.and_eq_true] at this
      exact this.1
    obtain ⟨h1, t, e1, e2⟩ := argsE_inv hn args 0 .nil he (Nat.zero_le _)
    have ht : t.get = fun i => args.getD i any := by
      funext j
      rw [e2]
      by_cases hj : j < args.length
      · rw [if_pos (by omega)]; simp
      · rw [if_neg (by omega)]
        simp [List.getD_eq_getElem?_getD, List.getElem?_eq_none (Nat.le_of_not_lt hj), Tr.get_nil]
    refine EvA.body hf hb hname (by omega) ?_
    rw [← ht]
    split at e1
    · rename_i fr1 h2 hcode
      refine (codeE_ok hm hrec hn _ _ _ _ _ _ hcode).mono ?_
      rintro e g h3 ⟨rfl, rfl, rfl⟩
      split at e1
      · rename_i vs hvs
        rw [sVal_eq] at e1
        simp at e1
        obtain ⟨rfl, rfl⟩ := e1
        simp only [bodyQ, hvs]
        exact ⟨rfl, rfl⟩
      · cases e1
    · rename_i fr1 h2 hcode
      refine (codeE_ok hm hrec hn _ _ _ _ _ _ hcode).mono ?_
      rintro e g h3 ⟨rfl, rfl, rfl⟩
      split at e1
      · rename_i vs hvs
        rw [sVal_eq] at e1
        simp at e1
        obtain ⟨rfl, rfl⟩ := e1
        simp only [bodyQ, hvs]
        exact ⟨rfl, rfl⟩
      · cases e1
    · cases e1
/-- a call whose arguments name no block, run where there is none: it comes to the same wherever it is made -/
theorem flat_up {v y : Value} {μ μ' : Emb} (hg : flat v = true) (h2 : VRel μ v y) : VRel μ' v y := flat_down hg h2
theorem EvA.base {f : FuncId} {args : List Value} {Q : Value → Prop} {h0 h : Hp} (ha : args.all flat = true) (he : EvA P f args (fun r h' => flat r = true ∧ Q r) []) : EvA P f args (fun r h' => h' = h ∧ Q r) h := by
  refine ⟨he.1, fun μ w vs hr hv => ?_⟩
  have hr0 : HRel (fun _ => none) [] w := ⟨fun b e h => by simp at h, fun b e B h => by simp at h, fun b c e f B C _ h => by simp at h⟩
  have hv0 : LRel (fun _ => none) args vs.toList := ⟨hv.1, fun i x y hx hy => flat_up (List.all_eq_true.1 ha x (List.mem_of_getElem? hx)) (hv.2 i x y hx hy)⟩
  refine (he.2 _ w vs hr0 hv0).mono ?_
  rintro e w' ⟨μ', h', r, v, rfl, s, hrv, hfl, hq⟩
  have hno : ∀ k, ¬ Own (fun _ => none) ([] : Hp) k := by rintro k ⟨b, e, B, h, _⟩; simp at h
  refine ⟨μ, h, r, v, rfl, ⟨fun _ _ => rfl, Nat.le_refl _, hr.world s.keeps.size (fun b e B he _ _ => s.keeps.block _ (hr.dom b e he).2 (hno _)), ⟨s.keeps.os, s.keeps.tape, s.keeps.output, s.keeps.size, fun k hk _ => s.keeps.block k hk (hno k)⟩, fun _ h => .inl h⟩, flat_up hfl hrv, rfl, hq⟩
/-- a known answer -/
def Tells (P : Program) (f : FuncId) (args : List Value) (r : Value) : Prop := ∀ h, EvA P f args (Is r h) h
theorem lookT_ok : ∀ (t : Known), (∀ e ∈ t, Tells P e.1 e.2.1 e.2.2) → ∀ f args r, lookT t f args = some r → Tells P f args r := by
  intro t
  induction t with
  | nil => intro _ f args r h; cases h
  | cons e t ih =>
    intro ht f args r h
    obtain ⟨g, xs, q⟩ := e
    simp only [lookT] at h
    cases hc : (Nat.beq g f && lEq (vEq 3) xs args) with
    | true =>
      rw [hc] at h
      simp at h; subst h
      simp only [Bool.and_eq_true] at hc
      have h1 := Nat.eq_of_beq_eq_true hc.1
      have h2 := lEq_ok (vEq_ok 3) _ _ hc.2
      subst h1; subst h2
      exact ht (g, xs, q) (by simp)
    | false =>
      rw [hc] at h
      exact ih (fun e he => ht e (by simp [he])) f args r h
theorem recE_ok (hm : P.follows .mixedOrders = true) {t : Known} (ht : ∀ e ∈ t, Tells P e.1 e.2.1 e.2.2) (base : FuncId → Bool) : ∀ k, RecOk P (recE P t base k) := by
  intro k
  induction k with
  | zero => exact ⟨fun f args h r h' he => (by cases he), fun n c fr h e fr' h' _ he => (by cases he)⟩
  | succ k ih =>
    refine ⟨fun f args h r h' he => ?_, fun n c fr h e fr' h' hn he => codeE_ok hm ih hn _ _ _ _ _ _ he⟩
    have he' : (bif base f then match lookT t f args with
      | some r => some (r, h)
      | none => match runE P (recE P t base k) f args [] with
        | some (r, _) => bif flat r && args.all flat then some (r, h) else none
        | none => none
    else runE P (recE P t base k) f args h) = some (r, h') := he
    cases hb : base f with
    | false => rw [hb] at he'; exact runE_ok hm ih he'
    | true =>
      rw [hb] at he'
      simp only [cond_true] at he'
      split at he'
      · rename_i r1 hl
        simp at he'
        obtain ⟨rfl, rfl⟩ := he'
        exact lookT_ok t ht f args r1 hl h
      · split at he'
        · rename_i r1 h1 hrun
          cases hfl : (flat r1 && args.all flat) with
          | false => rw [hfl] at he'; cases he'
          | true =>
            rw [hfl] at he'
            simp at he'
            obtain ⟨rfl, rfl⟩ := he'
            simp only [Bool.and_eq_true] at hfl
            have := runE_ok hm ih hrun
            refine (EvA.base (Q := fun r => r = r1) (h0 := []) (h := h) hfl.2 (this.mono ?_)).mono ?_
            · rintro r2 h2 ⟨rfl, rfl⟩; exact ⟨hfl.1, rfl⟩
            · rintro r2 h2 ⟨rfl, rfl⟩; exact ⟨rfl, rfl⟩
        · cases he'
/-- **A closed call, run by the kernel.** -/
theorem EvA.runT (hm : P.follows .mixedOrders = true) (t : Known) (ht : ∀ e ∈ t, Tells P e.1 e.2.1 e.2.2) (base : FuncId → Bool) (k : Nat) {f : FuncId} {args : List Value} {r : Value} (ha : args.all flat = true) (hr : flat r = true)
    (he : ((recE P t base k).call f args []).map (·.1) = some r) : Tells P f args r := by
  intro h
  obtain ⟨⟨r1, h1⟩, e1, e2⟩ := Option.map_eq_some_iff.1 he
  simp at e2; subst e2
  refine (EvA.base (Q := fun r => r = r1) (h0 := []) (h := h) ha (((recE_ok hm ht base k).call _ _ _ _ _ e1).mono ?_)).mono ?_
  · rintro r2 h2 ⟨rfl, rfl⟩; exact ⟨hr, rfl⟩
  · rintro r2 h2 ⟨rfl, rfl⟩; exact ⟨rfl, rfl⟩
theorem EvA.run (hm : P.follows .mixedOrders = true) (base : FuncId → Bool) (k : Nat) {f : FuncId} {args : List Value} {r : Value} (ha : args.all flat = true) (hr : flat r = true)
    (he : ((recE P [] base k).call f args []).map (·.1) = some r) : Tells P f args r := EvA.runT hm [] (fun _ h => by cases h) base k ha hr he
/-- a closed law, wherever it is called -/
theorem EvA.closed {f : FuncId} (he : EvA P f [] (fun r _ => r = .bool true) []) (W : World) : Calls P f #[] W fun e w' => e = .returned (.bool true) ∧ Below W.heap.size W w' := by
  have hr0 : HRel (fun _ => none) [] W := ⟨fun b e h => by simp at h, fun b e B h => by simp at h, fun b c e f B C _ h => by simp at h⟩
  refine (he.2 _ W #[] hr0 LRel.nil).mono ?_
  rintro e w' ⟨μ', h', r, v, rfl, s, hrv, rfl⟩
  cases hrv
  have hno : ∀ k, ¬ Own (fun _ => none) ([] : Hp) k := by rintro k ⟨b, e, B, h, _⟩; simp at h
  exact ⟨rfl, ⟨s.keeps.os, s.keeps.tape, s.keeps.output, s.keeps.size, fun k hk => s.keeps.block k hk (hno k)⟩⟩
end
end Go.Ab

/- Words for walks: rows told by a function of the place, iterators over texts, elements of slices; no condition. -/
namespace Go.Ab
open Go.RowKit
section
variable {P : Program} {h : Hp}
theorem indexAddr_sl {t e : TypeId} {z b o n c : Nat} {k : IntKind} {i : Int} (ht : P.underlying t = some (.slice e)) (hz : sizeT P e = some z) :
    indexAddrA P t (.slice (some ⟨b, o, none⟩) n c) (.int k i) = if 0 ≤ i ∧ i < n then some (.pointer (some ⟨b, o + i.toNat * z, none⟩)) else none := by simp [indexAddrA, ht, hz]
/-- an element whose place is known -/
theorem indexAddr_at {t e : TypeId} {z b o n c : Nat} {k : IntKind} {i : Int} {j : Nat} (ht : P.underlying t = some (.slice e)) (hz : sizeT P e = some z) (hi : i = (j : Nat)) (hj : j < n) :
    indexAddrA P t (.slice (some ⟨b, o, none⟩) n c) (.int k i) = some (.pointer (some ⟨b, o + j * z, none⟩)) := by
  subst hi
  rw [indexAddr_sl ht hz, if_pos (by omega)]; simp
theorem range_string {t : TypeId} {s : ByteArray} (ht : P.underlying t = some .string) : rangeA P t (.string s) h = some (.pointer (some ⟨h.length, 0, none⟩), h ++ [.siter s 0]) := by simp [rangeA, ht]
theorem next_more {b : Nat} {s : ByteArray} {pos : Nat} (hb : h[b]? = some (.siter s pos)) (hp : pos < s.size) :
    nextA (.pointer (some ⟨b, 0, none⟩)) true h = some (.tuple #[.bool true, .int .i64 (pos : Nat), .int .i32 (Utf8.decode s pos).1], h.set b (.siter s (pos + (Utf8.decode s pos).2))) := by simp [nextA, hb, hp]
theorem next_end {b : Nat} {s : ByteArray} {pos : Nat} (hb : h[b]? = some (.siter s pos)) (hp : ¬ pos < s.size) : nextA (.pointer (some ⟨b, 0, none⟩)) true h = some (.tuple #[.bool false], h) := by simp [nextA, hb, hp]

/-- a row of one-cell elements, told by the place -/
def rowV (f : Nat → Value) (n : Nat) : List Value := (List.range n).map f
@[simp] theorem rowV_length (f : Nat → Value) (n : Nat) : (rowV f n).length = n := by simp [rowV]
theorem rowV_get {f : Nat → Value} {n k : Nat} (hk : k < n) : (rowV f n)[k]? = some (f k) := by simp [rowV, hk]
theorem rowV_ext {f g : Nat → Value} {n : Nat} (h : ∀ k, k < n → f k = g k) : rowV f n = rowV g n := by
  unfold rowV
  exact List.map_congr_left fun k hk => h k (List.mem_range.1 hk)
theorem rowV_set {f : Nat → Value} {n k : Nat} {v : Value} : (rowV f n).set k v = rowV (fun i => if i = k then v else f i) n := by
  apply List.ext_getElem?
  intro i
  rw [List.getElem?_set]
  by_cases hi : i < n
  · rw [rowV_get hi]
    by_cases hk : k = i
    · subst hk; rw [if_pos rfl, if_pos (by simpa using hi), rowV_get hi, if_pos rfl]
    · rw [if_neg hk, rowV_get hi, if_neg (fun h => hk h.symm)]
  · have h1 : (rowV f n)[i]? = none := List.getElem?_eq_none (by simp; omega)
    have h2 : (rowV (fun i => if i = k then v else f i) n)[i]? = none := List.getElem?_eq_none (by simp; omega)
    rw [h1, h2]
    split
    · rw [if_neg (by simp; omega)]
    · rfl
theorem zeros_one (v : Value) (n : Nat) : zeros [v] n = rowV (fun _ => v) n := by
  induction n with
  | zero => rfl
  | succ n ih =>
    simp only [zeros, ih, rowV, List.range_succ_eq_map, List.map_cons, List.map_map]
    rfl
theorem spl_all (xs cs : List Value) (h : cs.length = xs.length) : spl cs 0 xs = xs := by
  have := spl_append xs [] cs (by omega)
  simp at this
  rw [this, List.drop_of_length_le (by omega)]; simp

/-! runes of texts -/
theorem dec_lo {s : ByteArray} {i : Nat} (hi : i < s.size) (hb : s[i] < 128) : Utf8.decode s i = (s[i].toNat, 1) := by
  have h1 : s.get! (i + 0) = s[i] := by
    rw [Nat.add_zero]
    show s.data[i]! = s.data[i]
    rw [getElem!_pos]
  have h2 : s[i].toNat < 128 := by simpa [UInt8.lt_iff_toNat_lt] using hb
  unfold Utf8.decode
  simp only [h1]
  rw [if_pos h2]
theorem dec_hi {s : ByteArray} {i : Nat} (hi : i < s.size) (hb : 128 ≤ s[i]) : 128 ≤ (Utf8.decode s i).1 ∧ 1 ≤ (Utf8.decode s i).2 := by
  have h1 : s.get! (i + 0) = s[i] := by
    rw [Nat.add_zero]
    show s.data[i]! = s.data[i]
    rw [getElem!_pos]
  have h2 : 128 ≤ s[i].toNat := by simpa [UInt8.le_iff_toNat_le] using hb
  unfold Utf8.decode
  simp only [h1, Utf8.runeError]
  rw [if_neg (by omega)]
  split
  · split
    · exact ⟨by simp only; omega, by simp⟩
    · exact ⟨by simp, by simp⟩
  · split
    · split
      · rename_i h; simp at h; exact ⟨by simp only; omega, by simp⟩
      · exact ⟨by simp, by simp⟩
    · split
      · split
        · rename_i h; simp at h; exact ⟨by simp only; omega, by simp⟩
        · exact ⟨by simp, by simp⟩
      · exact ⟨by simp, by simp⟩

/-! what is made in a statement whose order is drawn -/
def newMS (r : Option (Value × Hp)) : Option (Blk × (Nat → Value)) :=
  match r with
  | some (.slice _ n m, [B]) => some (B, fun i => .slice (some ⟨i, 0, none⟩) n m)
  | _ => none
@[simp] theorem newMS_some (a : Option Addr) (n m : Nat) (B : Blk) : newMS (some (.slice a n m, [B])) = some (B, fun i => .slice (some ⟨i, 0, none⟩) n m) := Eq.trans rfl rfl
@[simp ↓] theorem newA_ms {ρ : Operand → Value} (t : TypeId) (l c : Operand) : newA P ρ (.makeSlice t l c) = newMS (makeSliceA P t (ρ l) (ρ c) []) := by
  rw [newA]
  generalize makeSliceA P t (ρ l) (ρ c) [] = r
  rcases r with _ | ⟨v, l⟩
  · rfl
  · rcases l with _ | ⟨B, _ | ⟨C, l⟩⟩ <;> cases v <;> rfl
@[simp ↓] theorem newA_mm {ρ : Operand → Value} (t : TypeId) : newA P ρ (.makeMap t none) = some (.map [], fun i => .map (some i)) := Eq.trans rfl rfl

/-! texts as lists of bytes -/
def bs (l : List UInt8) : ByteArray := ⟨l.toArray⟩
theorem bs_self (s : ByteArray) : bs s.data.toList = s := rfl
@[simp] theorem bs_size (l : List UInt8) : (bs l).size = l.length := by simp [bs, ByteArray.size]
@[simp] theorem bs_list (l : List UInt8) : (bs l).data.toList = l := by simp [bs]
@[simp] theorem bs_inj (l m : List UInt8) : (bs l = bs m) = (l = m) := by
  apply propext
  constructor
  · intro h; have := congrArg (fun x => x.data.toList) h; simpa using this
  · rintro rfl; rfl
@[simp] theorem bs_lit (l m : List UInt8) : (bs l = ⟨m.toArray⟩) = (l = m) := bs_inj l m
theorem bs_extract (l : List UInt8) (a b : Nat) : (bs l).extract a b = bs ((l.drop a).take (b - a)) := by
  apply ByteArray.ext
  apply Array.toList_inj.1
  simp [bs, ByteArray.data_extract, Array.toList_extract, List.extract]
@[simp] theorem bs_get (l : List UInt8) (i : Nat) : (bs l)[i]? = l[i]? := by
  by_cases h : i < l.length
  · rw [getElem?_pos (bs l) i (by simpa using h), List.getElem?_eq_getElem h]
    simp [bs, ByteArray.getElem_eq_getElem_data]
  · rw [getElem?_neg (bs l) i (by simpa using h), List.getElem?_eq_none (by omega)]
@[simp] theorem bs_elem (l : List UInt8) (i : Nat) (h : i < (bs l).size) : (bs l)[i] = l[i]'(by simpa using h) := by simp [bs, ByteArray.getElem_eq_getElem_data]
theorem bs_getElem (l : List UInt8) (i : Nat) (h : i < (bs l).size) : (bs l)[i] = l.getD i 0 := by
  have h' : i < l.length := by simpa using h
  simp [bs, ByteArray.getElem_eq_getElem_data, List.getD_eq_getElem?_getD, List.getElem?_eq_getElem h']

/-! laws whose arguments name no block -/
theorem ground_self {v : Value} (h : ground v = true) (μ : Emb) : VRel μ v v := VRel.ground h
theorem EvA.flatLaw {f : FuncId} {args : List Value} (he : EvA P f args (fun r _ => r = .bool true) []) (ha : args.all ground = true) (W : World) : Calls P f args.toArray W fun e w' => e = .returned (.bool true) ∧ Below W.heap.size W w' := by
  have hr0 : HRel (fun _ => none) [] W := ⟨fun b e h => by simp at h, fun b e B h => by simp at h, fun b c e f B C _ h => by simp at h⟩
  have hv : LRel (fun _ => none) args args.toArray.toList := by
    refine ⟨by simp, fun i x y hx hy => ?_⟩
    have : x = y := Option.some.inj (hx.symm.trans (by simpa using hy))
    subst this
    exact VRel.ground (List.all_eq_true.1 ha x (List.mem_of_getElem? hx))
  refine (he.2 _ W args.toArray hr0 hv).mono ?_
  rintro e w' ⟨μ', h', r, v, rfl, s, hrv, rfl⟩
  cases hrv
  have hno : ∀ k, ¬ Own (fun _ => none) ([] : Hp) k := by rintro k ⟨b, e, B, h, _⟩; simp at h
  exact ⟨rfl, ⟨s.keeps.os, s.keeps.tape, s.keeps.output, s.keeps.size, fun k hk => s.keeps.block k hk (hno k)⟩⟩
end
end Go.Ab
