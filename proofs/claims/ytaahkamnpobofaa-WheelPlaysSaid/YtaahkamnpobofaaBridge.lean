/- From a world that has changed above its old end alone to heaps: a new block there; no condition. -/
import Derived.Test.YtaahkamnpobofaaAb32
import Derived.Below
import Derived.Laws.AppendOwn
namespace Go.Ab
open Go.RowKit
section
variable {P : Program} {μ : Emb} {h : Hp} {w w' : World}
theorem Below.keeps' (hb : Below w.heap.size w w') (S : Nat → Prop) : Keeps S w w' := ⟨hb.os, hb.tape, hb.output, hb.size, fun k hk _ => hb.block k hk⟩
theorem HRel.below (hr : HRel μ h w) (hb : Below w.heap.size w w') : HRel μ h w' :=
  hr.world hb.size fun b e B he _ _ => hb.block _ (hr.dom b e he).2
theorem Step.below (hr : HRel μ h w) (hb : Below w.heap.size w w') : Step μ h w μ h w' :=
  ⟨fun _ _ => rfl, Nat.le_refl _, HRel.below hr hb, Below.keeps' hb _, fun _ h => .inl h⟩
theorem Step.newAt (hr : HRel μ h w) (hb : Below w.heap.size w w') (B : Blk) (p : Place) (hp : w.heap.size ≤ p.block) (hp2 : p.block < w'.heap.size)
    (hB : ORel (μ.put h.length p) p B w') : Step μ h w (μ.put h.length p) (h ++ [B]) w' := by
  have hup := Emb.put_old hr p
  have hget : ∀ b e C, (μ.put h.length p) b = some e → (h ++ [B])[b]? = some C → (b = h.length ∧ e = p ∧ C = B) ∨ (b ≠ h.length ∧ μ b = some e ∧ h[b]? = some C) := by
    intro b e C he hC
    by_cases hbl : b = h.length
    · subst hbl
      rw [Emb.put_new] at he
      simp at he hC
      exact .inl ⟨rfl, he.symm, hC.symm⟩
    · simp only [Emb.put, if_neg hbl] at he
      have := (hr.dom b e he).1
      rw [List.getElem?_append_left this] at hC
      exact .inr ⟨hbl, he, hC⟩
  refine ⟨?_, by simp, ⟨?_, ?_, ?_⟩, Below.keeps' hb _, ?_⟩
  · intro b hbl; simp only [Emb.put]; rw [if_neg (by omega)]
  · intro b e he
    by_cases hbl : b = h.length
    · subst hbl; rw [Emb.put_new] at he; simp at he; subst he; simp; omega
    · simp only [Emb.put, if_neg hbl] at he
      have := hr.dom b e he
      have := hb.size
      simp; omega
  · intro b e C he hC
    rcases hget b e C he hC with ⟨rfl, rfl, rfl⟩ | ⟨_, he', hC'⟩
    · exact hB
    · exact (hr.obj b e C he' hC').congr hup (fun _ => hb.block _ (hr.dom b e he').2)
  · intro b c e f C D hbc he hf hC hD hrw hlv
    rcases hget b e C he hC with ⟨rfl, rfl, rfl⟩ | ⟨_, he', hC'⟩ <;> rcases hget c f D hf hD with ⟨rfl, rfl, rfl⟩ | ⟨_, hf', hD'⟩
    · exact absurd rfl hbc
    · have := (hr.dom c f hf').2; omega
    · have := (hr.dom b e he').2; omega
    · exact hr.sep b c e f C D hbc he' hf' hC' hD' hrw hlv
  · rintro k ⟨b, e, C, he, hC, hrw, rfl⟩
    rcases hget b e C he hC with ⟨rfl, rfl, rfl⟩ | ⟨_, he', hC'⟩
    · exact .inr hp
    · exact .inl ⟨b, e, C, he', hC', hrw, rfl⟩
/-- a new row that the world owns, as one that grows -/
theorem Step.ownsRow (hr : HRel μ h w) (hb : Below w.heap.size w w') {e : TypeId} {z n : Nat} {v : Value} {ys : List Value} (hz : 0 < z) (ho : w'.ownsRow w.heap.size e z v n ys) {xs : List Value} (hx : ∀ μ', LRel μ' xs ys) :
    ∃ μ' h' r, Step μ h w μ' h' w' ∧ VRel μ' r v ∧ Acc h.length h' z r n xs ∧ Same h h' := by
  obtain ⟨hl, ⟨rfl, rfl⟩ | ⟨g, cap, cur, rfl, hg, hH, hn, hc, hs, ht⟩⟩ := ho
  · have : xs = [] := List.eq_nil_of_length_eq_zero (by rw [(hx μ).1, hl]; simp)
    subst this
    exact ⟨μ, h, .slice none 0 0, Step.below hr hb, .sl0, Acc.nil _, Same.refl⟩
  · have hxl : xs.length = n * z := by rw [(hx μ).1, hl]
    have hnc : n * z ≤ cap * z := Nat.mul_le_mul_right z hn
    have hlt : g < w'.heap.size := by
      rcases Nat.lt_or_ge g w'.heap.size with h1 | h1
      · exact h1
      · rw [Array.getElem?_eq_none h1] at hH; cases hH
    refine ⟨μ.put h.length ⟨g, 0, cur.size, z⟩, h ++ [.cells xs false (some z)], .slice (some ⟨h.length, 0, none⟩) n (capO + n), Step.newAt hr hb _ ⟨g, 0, cur.size, z⟩ hg hlt ?_, ?_, ?_, Same.new _⟩
    · refine ⟨by simp only; omega, by simp, by simp, ?_, fun _ => ⟨cur, e, 0, 0, hH, by simp, .inl rfl⟩⟩
      intro o v hv
      obtain ⟨y, hy, hxy⟩ := (hx (μ.put h.length ⟨g, 0, cur.size, z⟩)).get hv
      refine ⟨y, ?_, hxy⟩
      rw [← ht, List.getElem?_take] at hy
      split at hy
      · simp only [World.cell?, hH, Nat.zero_add]
        rw [Array.getElem?_toList] at hy
        simpa using hy
      · cases hy
    · have := VRel.slO (μ := μ.put h.length ⟨g, 0, cur.size, z⟩) (e := ⟨g, 0, cur.size, z⟩) 0 n n cap (Emb.put_new _ _ _) (Nat.le_refl _) hn (by simp only; omega)
      simpa using this
    · exact ⟨hxl, .inr (.inr (.inl ⟨h.length, rfl, Nat.le_refl _, by simp⟩))⟩
end
end Go.Ab
