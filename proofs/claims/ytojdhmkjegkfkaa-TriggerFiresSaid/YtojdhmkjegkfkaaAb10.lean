/- Words for the walk over abstract values and blocks; no condition. -/
import Derived.Test.YtojdhmkjegkfkaaAb9
namespace Go.Ab
open Go.RowKit
section
variable {P : Program} {μ μ' : Emb} {h : Hp} {w : World} {n : Nat}

theorem VRel.down (hm : ∀ b e, μ b = some e → μ' b = some e) {v x : Value} (h1 : VRel μ v x) : ∀ {y : Value}, VRel μ' v y → VRel μ v y := by
  induction h1 with
  | any v => intro y _; exact .any y
  | sk => intro y h2; cases h2; exact .sk
  | bool b => intro y h2; cases h2; exact .bool b
  | int k n => intro y h2; cases h2; exact .int k n
  | string s => intro y h2; cases h2; exact .string s
  | ptr0 => intro y h2; cases h2; exact .ptr0
  | ptr o h =>
    intro y h2
    cases h2 with
    | ptr o h' => have := (hm _ _ h).symm.trans h'; simp at this; subst this; exact .ptr o h
  | sl0 => intro y h2; cases h2; exact .sl0
  | sl o n c h hc hn =>
    intro y h2
    cases h2 with
    | sl o n c h' hc hn => have := (hm _ _ h).symm.trans h'; simp at this; subst this; exact .sl o n c h hc hn
    | slO o n l c => omega
    | slE => omega
    | slZ o o' h' => have := (hm _ _ h).symm.trans h'; simp at this; subst this; exact .slZ o o' h
  | slO o n l c h hn hl hx =>
    intro y h2
    generalize hcc : capO + l = cc at h2
    cases h2 with
    | sl => omega
    | slO o n l' c' h' hn' hl' hx' =>
      have := (hm _ _ h).symm.trans h'; simp at this; subst this
      exact .slO o n l' c' h hn' hl' hx'
    | slE o o' h' => have := (hm _ _ h).symm.trans h'; simp at this; subst this; exact .slE o o' h
    | slZ => simp [capO] at hcc
  | slE o o' h =>
    intro y h2
    generalize hcc : capO = cc at h2
    cases h2 with
    | sl => omega
    | slO o n l' c' h' hn' hl' hx' =>
      have := (hm _ _ h).symm.trans h'; simp at this; subst this
      exact .slO o 0 l' c' h hn' hl' hx'
    | slE o o' h' => have := (hm _ _ h).symm.trans h'; simp at this; subst this; exact .slE o o' h
    | slZ => simp [capO] at hcc
  | slZ o o' h =>
    intro y h2
    generalize hcc : 0 = cc at h2
    cases h2 with
    | sl o n c h' hc hn => have := (hm _ _ h).symm.trans h'; simp at this; subst this; exact .sl o _ _ h hc hn
    | slO o n l' c' h' hn' hl' hx' => simp [capO] at hcc; omega
    | slZ o o' h' => have := (hm _ _ h).symm.trans h'; simp at this; subst this; exact .slZ o o' h
  | slD a => intro y h2; cases h2; exact .slD _
  | map0 => intro y h2; cases h2; exact .map0
  | map h =>
    intro y h2
    cases h2 with
    | map h' => have := (hm _ _ h).symm.trans h'; simp at this; subst this; exact .map h
  | func h1 h2 _ _ i3 i4 =>
    intro y h2
    cases h2 with
    | func g1 g2 g3 g4 =>
      rename_i xs ys xs1 ys1 _ _ xs2 ys2
      refine .func g1 g2 (fun i a b ha hb => ?_) (fun i a b ha hb => ?_)
      · have hi : i < xs1.size := by
          rw [← h1]
          rcases Nat.lt_or_ge i xs.size with h' | h'
          · exact h'
          · rw [Array.getElem?_eq_none h'] at ha; simp at ha
        exact i3 i a _ ha (Array.getElem?_eq_getElem hi) (g3 i a b ha hb)
      · have hi : i < ys1.size := by
          rw [← ‹ys.size = ys1.size›]
          rcases Nat.lt_or_ge i ys.size with h' | h'
          · exact h'
          · rw [Array.getElem?_eq_none h'] at ha; simp at ha
        exact i4 i a _ ha (Array.getElem?_eq_getElem hi) (g4 i a b ha hb)
  | yield h =>
    intro y h2
    cases h2 with
    | yield h' => have := (hm _ _ h).symm.trans h'; simp at this; subst this; exact .yield h
  | nilFunc => intro y h2; cases h2; exact .nilFunc
  | nilIface => intro y h2; cases h2; exact .nilIface
  | iface t _ ih => intro y h2; cases h2 with | iface t h' => exact .iface t (ih h')
  | agg h1 _ ih =>
    intro y h2
    rename_i xs xs1 _
    cases h2 with
    | agg g1 g3 =>
      refine .agg g1 (fun i a b ha hb => ?_)
      have hi : i < xs1.size := by
        rw [← h1]
        rcases Nat.lt_or_ge i xs.size with h' | h'
        · exact h'
        · rw [Array.getElem?_eq_none h'] at ha; simp at ha
      exact ih i a _ ha (Array.getElem?_eq_getElem hi) (g3 i a b ha hb)
  | tup h1 _ ih =>
    intro y h2
    rename_i xs xs1 _
    cases h2 with
    | any => exact .any _
    | tup g1 g3 =>
      refine .tup g1 (fun i a b ha hb => ?_)
      have hi : i < xs1.size := by
        rw [← h1]
        rcases Nat.lt_or_ge i xs.size with h' | h'
        · exact h'
        · rw [Array.getElem?_eq_none h'] at ha; simp at ha
      exact ih i a _ ha (Array.getElem?_eq_getElem hi) (g3 i a b ha hb)

theorem ORel.down {e : Place} {B : Blk} {w' : World} (hm : ∀ b e, μ b = some e → μ' b = some e) (h1 : ORel μ e B w) (h2 : ORel μ' e B w') : ORel μ e B w' := by
  cases B with
  | dead => trivial
  | cells cs ro op =>
    obtain ⟨a1, a2, a3, a4, a5⟩ := h1
    obtain ⟨b1, b2, b3, b4, b5⟩ := h2
    refine ⟨b1, b2, b3, fun o v hv => ?_, b5⟩
    obtain ⟨x, x1, x2⟩ := a4 o v hv
    obtain ⟨y, y1, y2⟩ := b4 o v hv
    exact ⟨y, y1, x2.down hm y2⟩
  | map es =>
    obtain ⟨a1, l, c, a2, a3⟩ := h1
    obtain ⟨b1, l', c', b2, b3⟩ := h2
    refine ⟨b1, l', c', b2, b3.len, fun i x e hx he => ?_, b3.born, b3.once⟩
    have hi : i < l.toList.length := by
      rw [← a3.len]
      rcases Nat.lt_or_ge i es.length with h' | h'
      · exact h'
      · rw [List.getElem?_eq_none h'] at hx; simp at hx
    have q1 := a3.each i x _ hx (List.getElem?_eq_getElem hi)
    have q2 := b3.each i x e hx he
    exact ⟨q1.1.down hm q2.1, q1.2.down hm q2.2⟩
  | siter s pos => exact h2
  | loop L =>
    obtain ⟨a1, r, a2, a3, a4, a5, a6, a7, a8, a9⟩ := h1
    obtain ⟨b1, q, b2, b3, b4, b5, b6, b7, b8, b9⟩ := h2
    exact ⟨b1, q, b2, b3, b4, b5, b6, b7, b8, fun i => (a9 i).down hm (b9 i)⟩

/-- a value that names no block -/
def flat : Value → Bool
  | .tuple vs => vs.toList.all ground
  | .iface _ v => ground v
  | v => ground v
theorem ground_down {v y : Value} (hg : ground v = true) (h2 : VRel μ' v y) : VRel μ v y := by
  unfold ground at hg
  split at hg <;> first | (simp at hg; done) | (cases h2; constructor)
theorem flat_down {v y : Value} (hg : flat v = true) (h2 : VRel μ' v y) : VRel μ v y := by
  unfold flat at hg
  split at hg
  · rename_i vs
    cases h2 with
    | any => exact .any _
    | tup g1 g3 =>
      refine .tup g1 (fun i a b ha hb => ground_down ?_ (g3 i a b ha hb))
      have := List.all_eq_true.1 hg a
      exact this (Array.mem_toList_iff.2 (Array.mem_of_getElem? ha))
  · cases h2 with
    | iface _ h => exact .iface _ (ground_down hg h)
  · exact ground_down hg h2

/-- what was made on the way, and is not told, is forgotten -/
theorem EvA.forget {f : FuncId} {args : List Value} {Q : Value → Prop} (he : EvA P f args (fun r h' => (∃ t, h' = h ++ t) ∧ flat r = true ∧ Q r) h) : EvA P f args (fun r h' => h' = h ∧ Q r) h := by
  refine ⟨he.1, fun μ w vs hr hv => (he.2 μ w vs hr hv).mono ?_⟩
  rintro e w' ⟨μ', h', r, v, rfl, s, hrv, ⟨t, rfl⟩, hfl, hq⟩
  have hup := s.up hr
  have hget : ∀ (b : Nat) (B : Blk), h[b]? = some B → (h ++ t)[b]? = some B := by
    intro b B hB
    have : b < h.length := by
      rcases Nat.lt_or_ge b h.length with h' | h'
      · exact h'
      · rw [List.getElem?_eq_none h'] at hB; simp at hB
    rw [List.getElem?_append_left this]; exact hB
  refine ⟨μ, h, r, v, rfl, ⟨fun _ _ => rfl, Nat.le_refl _, ⟨?_, ?_, ?_⟩, s.keeps, ?_⟩, flat_down hfl hrv, rfl, hq⟩
  · intro b e hb
    exact ⟨(hr.dom b e hb).1, (s.rel.dom b e (hup b e hb)).2⟩
  · intro b e B hb hB
    exact (hr.obj b e B hb hB).down hup (s.rel.obj b e B (hup b e hb) (hget b B hB))
  · intro b c e f B C hbc hb hc hB hC h1 h2
    exact s.rel.sep b c e f B C hbc (hup b e hb) (hup c f hc) (hget b B hB) (hget c C hC) h1 h2
  · rintro k ⟨b, e, B, hb, hB, h1, rfl⟩
    exact .inl ⟨b, e, B, hb, hB, h1, rfl⟩
end
end Go.Ab
