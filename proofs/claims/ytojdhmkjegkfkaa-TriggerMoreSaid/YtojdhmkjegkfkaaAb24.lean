/- Tree heaps: laws; no condition. The first part is printed by gen24.py. -/
import Derived.Test.YtojdhmkjegkfkaaAb23
namespace Go.Ab
open Go.RowKit
namespace HTr
theorem get_nil (i : Nat) : get .nil i = .dead := rfl
theorem get_node (v : Blk) (l r : HTr) (i : Nat) : get (.node v l r) i = if i = 0 then v else if i % 2 = 1 then get l (i / 2) else get r (i / 2 - 1) := by
  show Bool.rec (motive := fun _ => Blk) (Bool.rec (motive := fun _ => Blk) (get r (Nat.pred (Nat.div i 2))) (get l (Nat.div i 2)) (Nat.beq (Nat.mod i 2) 1)) v (Nat.beq i 0) = _
  rw [brec, brec]
  simp only [Nat.beq_eq]
  rfl
theorem sing_succ {R : Type} (n i : Nat) (x : Blk) (k : HTr → R) : sing (n + 1) i x k = if i = 0 then k (.node x .nil .nil) else if i % 2 = 1 then sing n (i / 2) x (fun l => k (.node .dead l .nil)) else sing n (i / 2 - 1) x (fun r => k (.node .dead .nil r)) := by
  show Bool.rec (motive := fun _ => R) (Bool.rec (motive := fun _ => R) (sing n (Nat.pred (Nat.div i 2)) x (fun r => k (.node .dead .nil r))) (sing n (Nat.div i 2) x (fun l => k (.node .dead l .nil))) (Nat.beq (Nat.mod i 2) 1)) (k (.node x .nil .nil)) (Nat.beq i 0) = _
  rw [brec, brec]
  simp only [Nat.beq_eq]
  rfl
theorem sing_spec {R : Type} : ∀ (n i : Nat) (x : Blk) (k : HTr → R), i + 1 < 2 ^ n → ∃ t, sing n i x k = k t ∧ ∀ j, get t j = if j = i then x else .dead := by
  intro n
  induction n with
  | zero => intro i x k h; simp at h
  | succ n ih =>
    intro i x k h
    rw [Nat.pow_succ] at h
    rw [sing_succ]
    split
    · rename_i h0
      subst h0
      refine ⟨_, rfl, fun j => ?_⟩
      rw [get_node]
      split
      · rfl
      · split <;> rfl
    · rename_i h0
      split
      · rename_i h1
        obtain ⟨t, e1, e2⟩ := ih (i / 2) x (fun l => k (.node .dead l .nil)) (by omega)
        refine ⟨_, e1, fun j => ?_⟩
        rw [get_node]
        split
        · rename_i hj; rw [if_neg (by omega)]
        · split
          · rw [e2]
            by_cases hji : j = i
            · rw [if_pos hji, if_pos (by omega)]
            · rw [if_neg hji, if_neg (by omega)]
          · rw [if_neg (by omega)]; rfl
      · rename_i h1
        obtain ⟨t, e1, e2⟩ := ih (i / 2 - 1) x (fun r => k (.node .dead .nil r)) (by omega)
        refine ⟨_, e1, fun j => ?_⟩
        rw [get_node]
        split
        · rename_i hj; rw [if_neg (by omega)]
        · split
          · rw [if_neg (by omega)]; rfl
          · rw [e2]
            by_cases hji : j = i
            · rw [if_pos hji, if_pos (by omega)]
            · rw [if_neg hji, if_neg (by omega)]
theorem putK_nil {R : Type} (i : Nat) (x : Blk) (k : HTr → R) : putK .nil i x k = sing 14 i x k := rfl
theorem putK_node {R : Type} (v : Blk) (l r : HTr) (i : Nat) (x : Blk) (k : HTr → R) : putK (.node v l r) i x k = if i = 0 then k (.node x l r) else if i % 2 = 1 then putK l (i / 2) x (fun l => k (.node v l r)) else putK r (i / 2 - 1) x (fun r => k (.node v l r)) := by
  show Bool.rec (motive := fun _ => R) (Bool.rec (motive := fun _ => R) (putK r (Nat.pred (Nat.div i 2)) x (fun r => k (.node v l r))) (putK l (Nat.div i 2) x (fun l => k (.node v l r))) (Nat.beq (Nat.mod i 2) 1)) (k (.node x l r)) (Nat.beq i 0) = _
  rw [brec, brec]
  simp only [Nat.beq_eq]
  rfl
theorem putK_spec {R : Type} (t : HTr) : ∀ (i : Nat) (x : Blk) (k : HTr → R), i < 16000 → ∃ t', putK t i x k = k t' ∧ ∀ j, get t' j = if j = i then x else get t j := by
  induction t with
  | nil =>
    intro i x k h
    obtain ⟨t, e1, e2⟩ := sing_spec 14 i x k (by omega)
    exact ⟨t, e1, e2⟩
  | node v l r ihl ihr =>
    intro i x k h
    rw [putK_node]
    split
    · rename_i h0
      subst h0
      refine ⟨_, rfl, fun j => ?_⟩
      rw [get_node, get_node]
      split <;> rfl
    · rename_i h0
      split
      · rename_i h1
        obtain ⟨t, e1, e2⟩ := ihl (i / 2) x (fun l => k (.node v l r)) (by omega)
        refine ⟨_, e1, fun j => ?_⟩
        rw [get_node, get_node]
        split
        · rename_i hj; rw [if_neg (by omega)]
        · split
          · rw [e2]
            by_cases hji : j = i
            · rw [if_pos hji, if_pos (by omega)]
            · rw [if_neg hji, if_neg (by omega)]
          · rw [if_neg (by omega)]
      · rename_i h1
        obtain ⟨t, e1, e2⟩ := ihr (i / 2 - 1) x (fun r => k (.node v l r)) (by omega)
        refine ⟨_, e1, fun j => ?_⟩
        rw [get_node, get_node]
        split
        · rename_i hj; rw [if_neg (by omega)]
        · split
          · rw [if_neg (by omega)]
          · rw [e2]
            by_cases hji : j = i
            · rw [if_pos hji, if_pos (by omega)]
            · rw [if_neg hji, if_neg (by omega)]
end HTr

theorem HT.get_eq (h : HT) (b : Nat) : h.get b = if b < h.n then some (h.t.get b) else none := by
  show Bool.rec (motive := fun _ => Option Blk) none (some (HTr.get h.t b)) (Nat.ble (Nat.succ b) h.n) = _
  rw [brec]
  simp only [Nat.ble_eq, Nat.succ_le_iff]
theorem HT.hp_len (h : HT) : h.hp.length = h.n := by simp [HT.hp]
theorem HT.hp_get (h : HT) (b : Nat) : h.hp[b]? = h.get b := by
  rw [HT.get_eq, HT.hp]
  by_cases hb : b < h.n
  · simp [hb]
  · simp [hb]
theorem tList_eq {α R : Type} {f : α → (α → R) → R} (hf : ∀ x k, f x k = k x) (l : List α) : ∀ k, tList f l k = k l := by
  induction l with
  | nil => intro k; rfl
  | cons x l ih => intro k; show f x (fun x => tList f l fun xs => k (x :: xs)) = _; rw [hf, ih]
theorem tStr_eq {R : Type} (s : ByteArray) (k : ByteArray → R) : tStr s k = k s := by
  obtain ⟨⟨l⟩⟩ := s
  simp [tStr, tList_eq sU8_eq]
theorem tVal1_eq {R : Type} (v : Value) (k : Value → R) : tVal1 v k = k v := by
  unfold tVal1; split <;> simp [sNat_eq, sInt_eq, sBool_eq, tStr_eq]
theorem tVal_eq {R : Type} (v : Value) (k : Value → R) : tVal v k = k v := by
  unfold tVal; split <;> simp [tList_eq tVal1_eq, tVal1_eq]
theorem tPair_eq {R : Type} (p : Value × Value) (k : Value × Value → R) : tPair p k = k p := by
  obtain ⟨x, y⟩ := p; simp [tPair, tVal_eq]
theorem tBlk_eq {R : Type} (B : Blk) (k : Blk → R) : tBlk B k = k B := by
  unfold tBlk; split <;> simp [tList_eq tVal1_eq, tList_eq tPair_eq, sNat_eq]
theorem HT.put_inv {R : Type} {h : HT} {b : Nat} {B : Blk} {k : HT → Option R} {r : R} (hp : h.put b B k = some r) : ∃ h', k h' = some r ∧ h'.hp = h.hp.set b B := by
  have hp' : Bool.rec (motive := fun _ => Option R) none (tBlk B fun B => HTr.putK h.t b B fun t => k ⟨h.n, t⟩) (Bool.rec (motive := fun _ => Bool) false (Nat.ble h.n 16000) (Nat.ble (Nat.succ b) h.n)) = some r := hp
  cases h1 : Nat.ble (Nat.succ b) h.n with
  | false => rw [h1] at hp'; cases hp'
  | true =>
    cases h2 : Nat.ble h.n 16000 with
    | false => rw [h1, h2] at hp'; cases hp'
    | true =>
      rw [h1, h2] at hp'
      have hp2 : tBlk B (fun B => HTr.putK h.t b B fun t => k ⟨h.n, t⟩) = some r := hp'
      rw [tBlk_eq] at hp2
      have hb' := Nat.le_of_ble_eq_true h1
      have hn := Nat.le_of_ble_eq_true h2
      obtain ⟨t, e1, e2⟩ := HTr.putK_spec h.t b B (fun t => k ⟨h.n, t⟩) (by omega)
      refine ⟨⟨h.n, t⟩, by rw [← e1]; exact hp2, ?_⟩
      apply List.ext_getElem?
      intro i
      rw [HT.hp_get, HT.get_eq, List.getElem?_set, HT.hp_get, HT.get_eq, HT.hp_len]
      simp only [e2]
      by_cases hi : i = b
      · subst hi; simp
      · rw [if_neg hi, if_neg (Ne.symm hi)]
theorem HT.push_inv {R : Type} {h : HT} {B : Blk} {k : HT → Option R} {r : R} (hp : h.push B k = some r) : ∃ h', k h' = some r ∧ h'.hp = h.hp ++ [B] := by
  have hp' : Bool.rec (motive := fun _ => Option R) none (tBlk B fun B => HTr.putK h.t h.n B fun t => sNat (Nat.succ h.n) fun n => k ⟨n, t⟩) (Nat.ble (Nat.succ h.n) 16000) = some r := hp
  rw [brec, tBlk_eq] at hp'
  split at hp'
  · rename_i hc
    have hn := Nat.le_of_ble_eq_true hc
    obtain ⟨t, e1, e2⟩ := HTr.putK_spec h.t h.n B (fun t => sNat (Nat.succ h.n) fun n => k ⟨n, t⟩) (by omega)
    rw [e1, sNat_eq] at hp'
    refine ⟨_, hp', ?_⟩
    apply List.ext_getElem?
    intro i
    rw [HT.hp_get, HT.get_eq, List.getElem?_append, HT.hp_get, HT.get_eq, HT.hp_len]
    simp only [e2]
    by_cases hi : i < h.n
    · rw [if_pos hi, if_pos hi, if_pos (by omega), if_neg (by omega)]
    · rw [if_neg hi]
      by_cases he : i = h.n
      · subst he; simp
      · rw [if_neg (by omega)]
        rw [List.getElem?_eq_none]; simp; omega
  · cases hp'
theorem onT_inv {R : Type} {h : HT} {e : Eff} {k : HT → Option R} {r : R} (hp : onT h e k = some r) : ∃ h', k h' = some r ∧ h'.hp = e.on h.hp := by
  cases e with
  | none => exact ⟨h, hp, rfl⟩
  | set b B => exact HT.put_inv hp
  | push B => exact HT.push_inv hp
  | swap b B C =>
    obtain ⟨h1, e1, e2⟩ := HT.put_inv (show h.put b B (fun h => h.push C k) = some r from hp)
    obtain ⟨h2, e3, e4⟩ := HT.push_inv e1
    exact ⟨h2, e3, by rw [e4, e2]; rfl⟩
end Go.Ab
