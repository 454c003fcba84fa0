/- Operations over tree heaps: what they come to; no condition. -/
import Derived.Test.YtojdhmkjegkfkaaAb26
namespace Go.Ab
open Go.RowKit
theorem opdK_eq {R : Type} (x : Operand) (k : (FT → Value) → R) : opdK x k = k (fun fr => evalA fr.get x) := by
  unfold opdK; split
  · rw [getK_eq]; rfl
  · rw [tVal_eq]; rfl
  · rfl
theorem opdsK_eq {R : Type} (l : List Operand) : ∀ (k : (FT → List Value) → R), opdsK l k = k (fun fr => l.map (evalA fr.get)) := by
  induction l with
  | nil => intro k; rfl
  | cons x l ih =>
    intro k
    show opdK x (fun g => opdsK l fun gs => k fun fr => g fr :: gs fr) = _
    rw [opdK_eq, ih]; rfl
def ResT.at (h : Hp) : ResT → Res
  | .val v e => .val v (e.on h)
  | .enter f a => .enter f a
  | .round b a => .round b a
section
variable {P : Program} {H : Hp} {x : ResT}
theorem vT_ok {r r' : Option Value} (h : vT r = some x) (hr : ∀ v, r = some v → r' = some v) : rv H r' = some (x.at H) := by
  unfold vT at h; split at h
  · simp at h; subst h; rw [hr _ rfl]; rfl
  · cases h
theorem pT_ok {r : Option (Value × Eff)} {r' : Option (Value × Hp)} (h : pT r = some x) (hr : ∀ v e, r = some (v, e) → r' = some (v, e.on H)) : rp r' = some (x.at H) := by
  unfold pT at h; split at h
  · simp at h; subst h; rw [hr _ _ rfl]; rfl
  · cases h
theorem uT_ok {r : Option Eff} {r' : Option Hp} (h : uT r = some x) (hr : ∀ e, r = some e → r' = some (e.on H)) : ru r' = some (x.at H) := by
  unfold uT at h; split at h
  · simp at h; subst h; rw [hr _ rfl]; rfl
  · cases h
theorem pureT_ok {o : Op} (hc : cls o = 0) {fr : FT} {h : HT} (hx : pureT P o fr h = some x) : opA P (evalA fr.get) o h.hp = some (x.at h.hp) := by
  unfold pureT at hx
  split at hx
  · rename_i v g hv
    simp at hx; subst hx
    have hg := look_same (by omega) (cls_new (by omega) _) hv
    subst hg
    exact cls_pure hc hv
  · cases hx
theorem newT_ok {o : Op} {fr : FT} {h : HT} (hx : newT P o fr h = some x) : opA P (evalA fr.get) o h.hp = some (x.at h.hp) := by
  unfold newT at hx
  split at hx
  · rename_i B f hv
    simp at hx; subst hx
    rw [newA_op hv, HT.hp_len]; rfl
  · cases hx
theorem ldT_ok {t : TypeId} {p v : Value} {h : HT} (hv : ldT P t p h = some v) : loadA P t p h.hp = some v := by
  unfold ldT at hv
  have key : aggT P t = some false ∨ loadT P t p h = some v := by
    cases ht : aggT P t with
    | none => rw [ht] at hv; exact .inr hv
    | some b => cases b with
      | true => rw [ht] at hv; exact .inr hv
      | false => exact .inl rfl
  rcases key with ht | hv
  · rw [ht] at hv
    replace hv : load1T p h = some v := hv
    unfold load1T at hv
    split at hv <;> try (simp at hv; done)
    split at hv <;> try (simp at hv; done)
    rename_i hb
    rw [lget_eq] at hv
    unfold loadA
    simp only [HT.hp_get, hb, ht, hv]
  · rw [← loadT_ok]; exact hv
theorem setL_eq (x : Value) (l : List Value) : ∀ i, i < l.length → setL x l i = spl l i [x] := by
  induction l with
  | nil => intro i h; simp at h
  | cons y l ih =>
    intro i h
    cases i with
    | zero => show (x :: l) = spl (y :: l) 0 [x]; simp [spl]
    | succ i =>
      show y :: setL x l i = _
      rw [ih i (by simpa using h)]
      simp [spl]
theorem stT_ok {t : TypeId} {p y : Value} {h : HT} {e : Eff} (hv : stT P t p y h = some e) : storeA P t p y h.hp = some (e.on h.hp) := by
  unfold stT at hv
  have key : (aggT P t = some false ∧ sizeT P t = some 1) ∨ storeT P t p y h = some e := by
    by_cases hc : aggT P t = some false ∧ sizeT P t = some 1
    · exact .inl hc
    · refine .inr ?_
      revert hv
      generalize aggT P t = a at hc
      generalize sizeT P t = z at hc
      intro hv
      cases a with
      | none => exact hv
      | some b => cases b with
        | true => exact hv
        | false => cases z with
          | none => exact hv
          | some z =>
            obtain _ | _ | z := z
            · exact hv
            · exact (hc ⟨rfl, rfl⟩).elim
            · exact hv
  rcases key with ⟨ht, hs⟩ | hv
  · rw [ht, hs] at hv
    replace hv : store1T p y h = some e := hv
    unfold store1T at hv
    split at hv <;> try (simp at hv; done)
    split at hv <;> try (simp at hv; done)
    split at hv <;> try (simp at hv; done)
    rename_i o _ cs op hb _ hone
    cases hl : Nat.ble (Nat.succ o) cs.length with
    | false => rw [hl] at hv; cases hv
    | true =>
      rw [hl] at hv
      simp at hv; subst hv
      have hl' := Nat.le_of_ble_eq_true hl
      unfold storeA
      simp only [HT.hp_get, hb]
      have hc : cellsOf y = some [y] := by
        cases y <;> simp_all [oneA, cellsOf]
      simp only [hc, hs, Eff.on]
      rw [if_pos ⟨rfl, by simpa using hl', by simp [hone]⟩, setL_eq _ _ _ (by omega)]
  · exact storeT_ok hv
theorem topK_ok (k : IntKind) {j : Nat} (h : j ≤ topK k) : k.wrap (.ofNat j) = .ofNat j := by
  cases k <;> simp [IntKind.wrap, IntKind.bits, IntKind.signed, topK] at h ⊢ <;> omega
theorem wrapT_eq (k : IntKind) (n : Int) : wrapT k n = k.wrap n := by
  unfold wrapT
  split
  · rename_i j
    cases hl : Nat.ble j (topK k) with
    | false => rfl
    | true => exact (topK_ok k (Nat.le_of_ble_eq_true hl)).symm
  · rfl
theorem binT_ok {op : BinOp} {t : TypeId} {y z : Operand} {f : Value → Value → Option Value} (h : binT P op t y z = some f) {a b v : Value} (hv : f a b = some v) : binA P op t y z a b = some v := by
  unfold binT at h
  split at h
  · simp at h; subst h; exact arM_ok (fun k n m => by simp [binA, intA, wrapT_eq]) hv
  · simp at h; subst h; exact arM_ok (fun k n m => by simp [binA, intA, wrapT_eq]) hv
  · exact binM_ok h hv
theorem builtinT_ok {b : Builtin} {ts : List TypeId} {xs : List Value} {h : HT} (hx : builtinT P b ts xs h = some x) : builtinA P b ts xs h.hp = some (x.at h.hp) := by
  unfold builtinT at hx
  split at hx
  · exact pT_ok hx fun _ _ => appendT_ok
  · exact pT_ok hx fun _ _ => copyT_ok
  · exact vT_ok hx fun _ h => by rw [← lenT_ok]; exact h
  · exact uT_ok hx fun _ => clearT_ok
  · exact vT_ok hx fun _ h => h
  · exact uT_ok hx fun _ => deleteT_ok
  · exact vT_ok hx fun _ h => h
  · exact vT_ok hx fun _ h => h
  · cases hx
theorem opT_ok {R : Type} {o : Op} {k : RunT → Option R} {r : R} (hk : opT P o k = some r) : ∃ f, k f = some r ∧ ∀ fr h x, f fr h = some x → opA P (evalA fr.get) o h.hp = some (x.at h.hp) := by
  unfold opT at hk
  split at hk
  all_goals (try simp only [opdK_eq, opdsK_eq] at hk)
  · exact ⟨_, hk, fun fr h x hx => by rw [opA_load]; exact vT_ok hx fun _ => ldT_ok⟩
  · split at hk
    · rename_i hb; exact ⟨_, hk, fun fr h x hx => by rw [opA_binOp]; exact vT_ok hx fun _ => binT_ok hb⟩
    · cases hk
  · split at hk
    · split at hk
      · rename_i hu _ _ hz; exact ⟨_, hk, fun fr h x hx => by rw [opA_indexAddr]; exact vT_ok hx fun _ => idxM_ok hu hz⟩
      · cases hk
    · exact ⟨_, hk, fun fr h x hx => by rw [opA_indexAddr]; exact vT_ok hx fun _ h => h⟩
  · split at hk
    · rename_i hu; exact ⟨_, hk, fun fr h x hx => by rw [opA_index]; exact vT_ok hx fun _ => idxS_ok hu⟩
    · exact ⟨_, hk, fun fr h x hx => by rw [opA_index]; exact vT_ok hx fun _ h => h⟩
  · exact ⟨_, hk, fun fr h x hx => by rw [opA_pick]; exact vT_ok hx fun _ h => h⟩
  · exact ⟨_, hk, fun fr h x hx => by rw [opA_store]; exact uT_ok hx fun _ => stT_ok⟩
  · exact ⟨_, hk, fun fr h x hx => by rw [opA_nilCheck]; exact vT_ok hx fun _ h => h⟩
  · exact ⟨_, hk, fun fr h x hx => by rw [opA_unOp]; exact vT_ok hx fun _ h => h⟩
  · exact ⟨_, hk, fun fr h x hx => by rw [opA_convert]; exact pT_ok hx fun _ _ => convT_ok⟩
  · exact ⟨_, hk, fun fr h x hx => by rw [opA_slice]; exact vT_ok hx fun _ h => by rw [← sliceT_ok]; exact h⟩
  · exact ⟨_, hk, fun fr h x hx => by rw [opA_fieldAddr]; exact vT_ok hx fun _ h => h⟩
  · exact ⟨_, hk, fun fr h x hx => by rw [opA_field]; exact vT_ok hx fun _ h => h⟩
  · exact ⟨_, hk, fun fr h x hx => by rw [opA_extract]; exact vT_ok hx fun _ h => h⟩
  · exact ⟨_, hk, fun fr h x hx => by rw [opA_lookup]; exact vT_ok hx fun _ h => by rw [← lookupT_ok]; exact h⟩
  · exact ⟨_, hk, fun fr h x hx => by rw [opA_mapUpdate]; exact uT_ok hx fun _ => mapUpdateT_ok⟩
  · exact ⟨_, hk, fun fr h x hx => by rw [opA_insert]; exact uT_ok hx fun _ => mapUpdateT_ok⟩
  · exact ⟨_, hk, fun fr h x hx => by rw [opA_range]; exact pT_ok hx fun _ _ => rangeT_ok⟩
  · exact ⟨_, hk, fun fr h x hx => by rw [opA_next]; exact pT_ok hx fun _ _ => nextT_ok⟩
  · exact ⟨_, hk, fun fr h x hx => by rw [opA_builtin]; exact builtinT_ok hx⟩
  · refine ⟨_, hk, fun fr h x hx => ?_⟩
    unfold valT at hx
    rw [opA_call]
    split at hx
    · rename_i hf; simp at hx; subst hx; simp [hf, ResT.at]
    · rename_i hf; simp at hx; subst hx; simp [hf, ResT.at]
    · cases hx
  · split at hk
    · rename_i hc; exact ⟨_, hk, fun fr h x hx => pureT_ok hc hx⟩
    · exact ⟨_, hk, fun fr h x hx => newT_ok hx⟩
    · cases hk
end
end Go.Ab
