/- A statement whose operations may come in several orders: the model's does the same in each of them; no condition. -/
import Derived.Test.YtojdhmkjegkfkaaAb13
namespace Go.Ab
open Go.RowKit
section
variable {P : Program} {n : Nat} {ops : Array Oper} {fr : Fr} {μ : Emb} {h : Hp} {w : World}

theorem nodup_rev {l : List Nat} (h : l.reverse.Nodup) : l.Nodup := (List.pairwise_reverse.1 h).imp (fun h => Ne.symm h)
/-- more is told of blocks than there yet is -/
theorem Step.ext (hr : HRel μ h w) (B : Blk) : Step μ h w μ (h ++ [B]) w := by
  have hget : ∀ b e C, μ b = some e → (h ++ [B])[b]? = some C → h[b]? = some C := by
    intro b e C he hC
    rwa [List.getElem?_append_left (hr.dom b e he).1] at hC
  refine ⟨fun _ _ => rfl, by simp, ⟨fun b e he => ?_, fun b e C he hC => hr.obj b e C he (hget b e C he hC), fun b c e f C D hbc he hf hC hD h1 h2 => hr.sep b c e f C D hbc he hf (hget b e C he hC) (hget c f D hf hD) h1 h2⟩, Keeps.refl _ _, ?_⟩
  · have := hr.dom b e he; simp; omega
  · rintro k ⟨b, e, C, he, hC, h1, rfl⟩
    exact .inl ⟨b, e, C, he, hget b e C he hC, h1, rfl⟩

theorem GoodB.move {B : Blk} {μ' : Emb} {id N : Nat} {p : Place} {w' : World} (hg : GoodB μ B) (hup : ∀ b e, μ b = some e → μ' b = some e) (hid : μ id = none) (ho : ORel μ' p B w') : ORel (μ.put id p) p B w' := by
  have hup2 : ∀ b e, μ b = some e → (μ.put id p) b = some e := by
    intro b e hb
    simp only [Emb.put]
    split
    · rename_i h'; subst h'; rw [hid] at hb; simp at hb
    · exact hb
  cases B with
  | dead => trivial
  | cells cs ro op =>
    obtain ⟨b1, b2, b3, b4, b5⟩ := ho
    refine ⟨b1, b2, b3, fun o v hv => ?_, b5⟩
    obtain ⟨y, y1, y2⟩ := b4 o v hv
    obtain ⟨x, hx⟩ := hg v (List.mem_of_getElem? hv)
    exact ⟨y, y1, (hx.down hup y2).mono hup2⟩
  | map es =>
    obtain ⟨b1, l, c, b2, b3⟩ := ho
    have : es = [] := hg
    subst this
    exact ⟨b1, l, c, b2, b3.len, by simp, b3.born, b3.once⟩
  | siter s pos => exact hg.elim
  | loop L => exact hg.elim

/-- what was told is now made -/
theorem Step.fill {μ₀ : Emb} {h₀ : Hp} {w₀ : World} {μ' : Emb} {w' : World} {B : Blk} {id : Nat} {p : Place} (s0 : Step μ₀ h₀ w₀ μ h w) (s : Step μ h w μ' (h ++ [B]) w') (hp : μ' h.length = some p)
    (hB : h[id]? = some B) (hid : μ id = none) (hg : GoodB μ B) (hlt : h₀.length ≤ id) : Step μ₀ h₀ w₀ (μ.put id p) h w' := by
  have hr := s0.rel
  have hup := s.up hr
  have hidlt := hp_lt hB
  have hlast : (h ++ [B])[h.length]? = some B := by simp
  have hget : ∀ b e C, (μ.put id p) b = some e → h[b]? = some C → (b = id ∧ e = p ∧ C = B) ∨ (b ≠ id ∧ μ b = some e ∧ μ' b = some e ∧ (h ++ [B])[b]? = some C) := by
    intro b e C he hC
    by_cases hb : b = id
    · subst hb
      rw [hB] at hC
      simp [Emb.put] at he hC
      exact .inl ⟨rfl, he.symm, hC.symm⟩
    · simp only [Emb.put, if_neg hb] at he
      exact .inr ⟨hb, he, hup b e he, hp_old hC⟩
  have hrel : HRel (μ.put id p) h w' := by
    refine ⟨?_, ?_, ?_⟩
    · intro b e he
      by_cases hb : b = id
      · subst hb
        simp [Emb.put] at he; subst he
        exact ⟨hidlt, (s.rel.dom _ _ hp).2⟩
      · simp only [Emb.put, if_neg hb] at he
        exact ⟨(hr.dom b e he).1, (s.rel.dom b e (hup b e he)).2⟩
    · intro b e C he hC
      rcases hget b e C he hC with ⟨rfl, rfl, rfl⟩ | ⟨hb, he', he2, hC2⟩
      · exact hg.move (N := 0) hup hid (s.rel.obj _ _ _ hp hlast)
      · have h1 := (hr.obj b e C he' hC).down hup (s.rel.obj b e C he2 hC2)
        refine h1.congr (fun c f hc => ?_) (fun _ => rfl)
        simp only [Emb.put]
        split
        · rename_i h'; subst h'; rw [hid] at hc; simp at hc
        · exact hc
    · intro b c e f C D hbc he hf hC hD h1 h2
      rcases hget b e C he hC with ⟨rfl, rfl, rfl⟩ | ⟨hb, he', he2, hC2⟩ <;> rcases hget c f D hf hD with ⟨rfl, rfl, rfl⟩ | ⟨hc, hf', hf2, hD2⟩
      · exact absurd rfl hbc
      · exact s.rel.sep h.length c e f C D (by have := (hr.dom c f hf').1; omega) hp hf2 hlast hD2 h1 h2
      · exact s.rel.sep b h.length e f C D (by have := (hr.dom b e he').1; omega) he2 hp hC2 hlast h1 h2
      · exact s.rel.sep b c e f C D hbc he2 hf2 hC2 hD2 h1 h2
  have hown : ∀ k, Own (μ.put id p) h k → Own μ h k ∨ w.heap.size ≤ k := by
    rintro k ⟨b, e, C, he, hC, h1, rfl⟩
    rcases hget b e C he hC with ⟨rfl, rfl, rfl⟩ | ⟨hb, he', he2, hC2⟩
    · rcases s.own e.block ⟨h.length, e, C, hp, hlast, h1, rfl⟩ with h3 | h3
      · exact .inl h3
      · exact .inr h3
    · exact .inl ⟨b, e, C, he', hC, h1, rfl⟩
  refine ⟨fun b hb => ?_, s0.len, hrel, ⟨s.keeps.os.trans s0.keeps.os, s.keeps.tape.trans s0.keeps.tape, s.keeps.output.trans s0.keeps.output, Nat.le_trans s0.keeps.size s.keeps.size, ?_⟩, ?_⟩
  · simp only [Emb.put]
    rw [if_neg (by omega)]; exact s0.sub b hb
  · intro k hk hn
    refine (s.keeps.block k (Nat.lt_of_lt_of_le hk s0.keeps.size) ?_).trans (s0.keeps.block k hk hn)
    intro ho
    rcases s0.own k ho with h1 | h1
    · exact hn h1
    · omega
  · intro k hk
    rcases hown k hk with h1 | h1
    · exact s0.own k h1
    · exact .inr (Nat.le_trans s0.keeps.size h1)

variable {K : Fr → Hp → Prop} {c : List Nat} {μ₀ : Emb} {h₀ : Hp} {w₀ : World} {ds : List Deferred} {m : Nat} {r0 : Option Nat}

structure J (P : Program) (n : Nat) (ops : Array Oper) (fr : Fr) (K : Fr → Hp → Prop) (c : List Nat) (μ₀ : Emb) (h₀ : Hp) (w₀ : World) (ds : List Deferred) (L : Array Bool) (a : Act) (w : World)
    (done : List Past) (rem : List Nat) (h : Hp) (μ : Emb) : Prop where
  size : L.size = ops.size
  split : c = (done.map (·.i)).reverse ++ rem
  can : Can P n ops fr K rem done h
  down : ∀ i, L.getD i false = true → ∀ j ∈ preds ops i, L.getD j false = true
  inn : ∀ i, L.getD i false = true → ∃ p ∈ done, p.i = i
  eff : ∀ p ∈ done, p.k = .eff → L.getD p.i false = true
  step : Step μ₀ h₀ w₀ μ h w
  frame : FRel μ n (FS n ops fr (done.filter fun p => L.getD p.i false)) a.tmps
  defers : a.defers = ds
  made : ∀ p ∈ done, ∀ B id, p.k = .made B id → h₀.length ≤ id ∧ (L.getD p.i false = false → μ id = none)
  low : ∀ p ∈ done, ∀ B id, p.k = .made B id → id < h.length
  ids : ∀ p S T, done = T ++ p :: S → ∀ B id, p.k = .made B id → ∀ q ∈ S, ∀ B' id', q.k = .made B' id' → id' < id
  past : ∀ p S T, done = T ++ p :: S → (∃ o, ops[p.i]? = some o ∧ (p.k = .skip ∧ p.v = sk ∧ wantA ops o (FS n ops fr S) = some false ∨ p.k ≠ .skip ∧ wantA ops o (FS n ops fr S) = some true) ∧
    (∀ B id, p.k = .made B id → ∃ f, newA P (evalA (FS n ops fr S)) o.op = some (B, f) ∧ p.v = f id)) ∧ (L.getD p.i false = false → stillP P n ops fr h S p)

theorem stillAll_at {h : Hp} {A : List Nat} : ∀ (done : List Past), stillAll P n ops fr A h done → ∀ p S T, done = T ++ p :: S → A.contains p.i = true ∨ stillP P n ops fr h S p := by
  intro done
  induction done with
  | nil => intro _ p S T he; simp at he
  | cons q done ih =>
    intro hs p S T he
    cases T with
    | nil => simp at he; obtain ⟨rfl, rfl⟩ := he; exact hs.1
    | cons r T => simp at he; exact ih hs.2 p S T he.2

theorem J.lt (hpl : Plan n ops c) {L : Array Bool} {a : Act} {done : List Past} {rem : List Nat} (j : J P n ops fr K c μ₀ h₀ w₀ ds L a w done rem h μ) {p : Past} (hp : p ∈ done) : p.i < ops.size := by
  obtain ⟨T, S, rfl⟩ := List.append_of_mem hp
  obtain ⟨⟨o, ho, _⟩, _⟩ := j.past p S T rfl
  exact (Array.getElem?_eq_some_iff.1 ho).1

theorem J.advance (hpl : Plan n ops c) {L : Array Bool} {a : Act} : ∀ (rem : List Nat) (done : List Past) (h : Hp), J P n ops fr K c μ₀ h₀ w₀ ds L a w done rem h μ →
    ∃ done' rem' h', J P n ops fr K c μ₀ h₀ w₀ ds L a w done' rem' h' μ ∧ (rem' = [] ∨ ∃ e rest o, rem' = e :: rest ∧ ops[e]? = some o ∧ isEff o.op = true ∧ wantA ops o (FS n ops fr done') = some true) := by
  intro rem
  induction rem with
  | nil => intro done h j; exact ⟨done, [], h, j, .inl rfl⟩
  | cons i rem ih =>
    intro done h j
    have hcan := j.can
    simp only [Can] at hcan
    split at hcan
    · exact hcan.elim
    rename_i o ho
    split at hcan
    · exact hcan.elim
    rename_i t hw
    -- the operation isn't listed
    have hnd := hpl.nodup
    rw [j.split] at hnd
    have hiL : L.getD i false = false := by
      cases hL : L.getD i false with
      | false => rfl
      | true =>
        obtain ⟨p, hp, rfl⟩ := j.inn i hL
        rw [List.nodup_append] at hnd
        exact absurd rfl (hnd.2.2 p.i (by simp; exact ⟨p, hp, rfl⟩) p.i (by simp))
    have hsplit : ∀ v k, c = (((⟨i, v, k⟩ : Past) :: done).map (·.i)).reverse ++ rem := by
      intro v k; rw [j.split]; simp
    have hinn : ∀ v k, ∀ i', L.getD i' false = true → ∃ p ∈ (⟨i, v, k⟩ : Past) :: done, p.i = i' := by
      intro v k i' hi'
      obtain ⟨p, hp, h'⟩ := j.inn i' hi'
      exact ⟨p, by simp [hp], h'⟩
    have hfil : ∀ v k, (((⟨i, v, k⟩ : Past) :: done).filter fun p => L.getD p.i false) = done.filter fun p => L.getD p.i false := by
      intro v k
      rw [List.filter_cons, if_neg (by show ¬ L.getD i false = true; rw [hiL]; simp)]
    cases t with
    | false =>
      have hcan := hcan.1 rfl
      refine ih (⟨i, sk, .skip⟩ :: done) h ⟨j.size, hsplit _ _, hcan, j.down, hinn _ _, ?_, j.step, ?_, j.defers, ?_, ?_, ?_, ?_⟩
      · intro p hp hk
        rcases List.mem_cons.1 hp with rfl | hp
        · simp at hk
        · exact j.eff p hp hk
      · rw [hfil]; exact j.frame
      · intro p hp B id hk
        rcases List.mem_cons.1 hp with rfl | hp
        · simp at hk
        · exact j.made p hp B id hk
      · intro p hp B id hk
        rcases List.mem_cons.1 hp with rfl | hp
        · simp at hk
        · exact j.low p hp B id hk
      · intro p S T he B id hk
        cases T with
        | nil => simp at he; obtain ⟨rfl, rfl⟩ := he; simp at hk
        | cons q T => simp at he; exact j.ids p S T he.2 B id hk
      · intro p S T he
        cases T with
        | nil =>
          simp at he; obtain ⟨rfl, rfl⟩ := he
          exact ⟨⟨o, ho, .inl ⟨rfl, rfl, hw⟩, by simp⟩, fun _ => trivial⟩
        | cons q T => simp at he; exact j.past p S T he.2
    | true =>
      have hcan := hcan.2 rfl
      split at hcan
      · rename_i heff
        exact ⟨done, i :: rem, h, j, .inr ⟨i, rem, o, rfl, ho, heff, hw⟩⟩
      · split at hcan
        · rename_i B f hnew
          obtain ⟨hstill, hcan⟩ := hcan
          have hfree : μ h.length = none := by
            cases hm : μ h.length with
            | none => rfl
            | some e => have := (j.step.rel.dom _ e hm).1; omega
          refine ih (⟨i, f h.length, .made B h.length⟩ :: done) (h ++ [B]) ⟨j.size, hsplit _ _, hcan, j.down, hinn _ _, ?_, j.step.trans (Step.ext j.step.rel B), ?_, j.defers, ?_, ?_, ?_, ?_⟩
          · intro p hp hk
            rcases List.mem_cons.1 hp with rfl | hp
            · simp at hk
            · exact j.eff p hp hk
          · rw [hfil]; exact j.frame
          · intro p hp B' id hk
            rcases List.mem_cons.1 hp with rfl | hp
            · simp at hk; obtain ⟨rfl, rfl⟩ := hk; exact ⟨j.step.len, fun _ => hfree⟩
            · exact j.made p hp B' id hk
          · intro p hp B' id hk
            rcases List.mem_cons.1 hp with rfl | hp
            · simp at hk; obtain ⟨rfl, rfl⟩ := hk; simp
            · have := j.low p hp B' id hk; simp; omega
          · intro p S T he B' id hk
            cases T with
            | nil =>
              simp at he; obtain ⟨rfl, rfl⟩ := he
              simp at hk; obtain ⟨rfl, rfl⟩ := hk
              exact fun q hq B2 id2 hk2 => j.low q hq B2 id2 hk2
            | cons q T => simp at he; exact j.ids p S T he.2 B' id hk
          · intro p S T he
            cases T with
            | nil =>
              simp at he; obtain ⟨rfl, rfl⟩ := he
              refine ⟨⟨o, ho, .inr ⟨by simp, hw⟩, ?_⟩, fun _ => ?_⟩
              · intro B' id hk
                simp at hk; obtain ⟨rfl, rfl⟩ := hk
                exact ⟨f, hnew, rfl⟩
              · simp [stillP]
            | cons q T =>
              simp at he
              exact ⟨(j.past p S T he.2).1, fun _ => (stillAll_at done hstill p S T he.2).resolve_left (by simp)⟩
        · split at hcan
          · rename_i v h' hop
            obtain ⟨rfl, hcan⟩ := hcan
            refine ih (⟨i, v, .quiet⟩ :: done) h' ⟨j.size, hsplit _ _, hcan, j.down, hinn _ _, ?_, j.step, ?_, j.defers, ?_, ?_, ?_, ?_⟩
            · intro p hp hk
              rcases List.mem_cons.1 hp with rfl | hp
              · simp at hk
              · exact j.eff p hp hk
            · rw [hfil]; exact j.frame
            · intro p hp B id hk
              rcases List.mem_cons.1 hp with rfl | hp
              · simp at hk
              · exact j.made p hp B id hk
            · intro p hp B id hk
              rcases List.mem_cons.1 hp with rfl | hp
              · simp at hk
              · exact j.low p hp B id hk
            · intro p S T he B id hk
              cases T with
              | nil => simp at he; obtain ⟨rfl, rfl⟩ := he; simp at hk
              | cons q T => simp at he; exact j.ids p S T he.2 B id hk
            · intro p S T he
              cases T with
              | nil =>
                simp at he; obtain ⟨rfl, rfl⟩ := he
                exact ⟨⟨o, ho, .inr ⟨by simp, hw⟩, by simp⟩, fun _ => ⟨o, ho, hop⟩⟩
              | cons q T => simp at he; exact j.past p S T he.2
          · exact hcan.elim

theorem anc_mem (L : Array Bool) (hdown : ∀ i, L.getD i false = true → ∀ j ∈ preds ops i, L.getD j false = true) : ∀ (k i : Nat), (∀ j ∈ preds ops i, L.getD j false = true) → ∀ j ∈ ancs ops k i, L.getD j false = true := by
  intro k
  induction k with
  | zero => intro i _ j hj; simp [ancs] at hj
  | succ k ih =>
    intro i hi j hj
    simp only [ancs, List.mem_flatMap] at hj
    obtain ⟨q, hq, hj⟩ := hj
    have hqL := hi q hq
    rcases List.mem_cons.1 hj with rfl | hj
    · exact hqL
    · exact ih q (hdown q hqL) j hj

/-- what an operation looks at is as it was in the one order -/
theorem J.looks_eq (hpl : Plan n ops c) {L : Array Bool} {a : Act} {done : List Past} {rem : List Nat} (j : J P n ops fr K c μ₀ h₀ w₀ ds L a w done rem h μ) {S T : List Past} {i : Nat} (hi : i < ops.size)
    (hpr : ∀ q ∈ preds ops i, L.getD q false = true) (hiL : L.getD i false = false)
    (hS : done = T ++ S) (hbefore : ∀ q, q ∈ S.map (·.i) ↔ (q ∈ done.map (·.i) ∧ c.idxOf q < c.idxOf i)) :
    ∀ t ∈ looks ops i, FS n ops fr (done.filter fun p => L.getD p.i false) t = FS n ops fr S t := by
  intro t ht
  have hone : ∀ (X : List Past), (∀ p ∈ X, p ∈ done) → ∀ p ∈ X, ∀ q ∈ X, dstOf ops p.i = some t → dstOf ops q.i = some t → q = p := by
    intro X hX p hp q hq h1 h2
    have hpi := j.lt hpl (hX p hp)
    have hqi := j.lt hpl (hX q hq)
    have hii : q.i = p.i := by
      rcases Nat.lt_trichotomy q.i p.i with h' | h' | h'
      · exact absurd h1 (hpl.dsts _ hqi _ hpi (by omega) t h2)
      · exact h'
      · exact absurd h1 (hpl.dsts _ hqi _ hpi (by omega) t h2)
    -- one index, one entry
    have hnd : (done.map (·.i)).Nodup := by
      have := hpl.nodup
      rw [j.split, List.nodup_append] at this
      exact nodup_rev this.1
    obtain ⟨A, B, hAB⟩ := List.append_of_mem (hX p hp)
    rw [hAB] at hnd
    have hq' := hX q hq
    rw [hAB] at hq'
    simp only [List.map_append, List.map_cons, List.nodup_append, List.nodup_cons] at hnd
    rcases List.mem_append.1 hq' with h' | h'
    · exact absurd hii (hnd.2.2 q.i (List.mem_map.2 ⟨q, h', rfl⟩) p.i (by simp))
    · rcases List.mem_cons.1 h' with h' | h'
      · exact h'
      · exact absurd (List.mem_map.2 ⟨q, h', hii⟩) hnd.2.1.1
  by_cases hw : ∃ k, k < ops.size ∧ dstOf ops k = some t
  · obtain ⟨k, hk, hkt⟩ := hw
    rcases hpl.look i hi t ht k hk hkt with ⟨h1, h2⟩ | ⟨h1, h2⟩
    · have hkL := anc_mem L j.down _ i hpr k h2
      obtain ⟨p, hp, rfl⟩ := j.inn k hkL
      have hpS : p ∈ S := by
        have := (hbefore p.i).2 ⟨List.mem_map.2 ⟨p, hp, rfl⟩, h1⟩
        obtain ⟨q, hq, hqi⟩ := List.mem_map.1 this
        have hqd : q ∈ done := by rw [hS]; exact List.mem_append_right _ hq
        have := hone done (fun _ h => h) p hp q hqd hkt (by rw [hqi]; exact hkt)
        rw [← this]; exact hq
      have hn := hpl.dst _ hk t hkt
      rw [FS_some (p := p) (List.mem_filter.2 ⟨hp, hkL⟩) hkt hn (fun q hq hqt => hone done (fun _ h => h) p hp q (List.mem_filter.1 hq).1 hkt hqt),
        FS_some (p := p) hpS hkt hn (fun q hq hqt => hone done (fun _ h => h) p hp q (by rw [hS]; exact List.mem_append_right _ hq) hkt hqt)]
    · have hkL : L.getD k false = false := by
        cases hL : L.getD k false with
        | false => rfl
        | true =>
          have := anc_mem L j.down _ k (j.down k hL) i h2
          rw [hiL] at this; simp at this
      rw [FS_none, FS_none]
      · intro p hp hpt
        have hpd : p ∈ done := by rw [hS]; exact List.mem_append_right _ hp
        have hpk : p.i = k := by
          by_cases h' : p.i = k
          · exact h'
          · exact absurd hkt (hpl.dsts _ (j.lt hpl hpd) _ hk h' t hpt)
        have := ((hbefore p.i).1 (List.mem_map.2 ⟨p, hp, rfl⟩)).2
        rw [hpk] at this; omega
      · intro p hp hpt
        obtain ⟨hpd, hpL⟩ := List.mem_filter.1 hp
        have hpk : p.i = k := by
          by_cases h' : p.i = k
          · exact h'
          · exact absurd hkt (hpl.dsts _ (j.lt hpl hpd) _ hk h' t hpt)
        rw [hpk] at hpL; simp [hkL] at hpL
  · have hw' : ∀ p ∈ done, dstOf ops p.i ≠ some t := fun p hp hpt => hw ⟨p.i, j.lt hpl hp, hpt⟩
    rw [FS_none (fun p hp => hw' p (List.mem_filter.1 hp).1), FS_none (fun p hp => hw' p (by rw [hS]; exact List.mem_append_right _ hp))]

theorem getD_set (L : Array Bool) (i k : Nat) (hi : i < L.size) : (L.setIfInBounds i true).getD k false = if k = i then true else L.getD k false := by
  rw [Array.getD_eq_getD_getElem?, Array.getElem?_setIfInBounds]
  by_cases h : i = k
  · subst h; simp [hi]
  · rw [if_neg h, if_neg (fun h' => h h'.symm), Array.getD_eq_getD_getElem?]

/-- one of the past is now done -/
theorem frame_add (hpl : Plan n ops c) {L : Array Bool} {a : Act} {done : List Past} {rem : List Nat} (j : J P n ops fr K c μ₀ h₀ w₀ ds L a w done rem h μ) {μ' : Emb} (hup : ∀ b e, μ b = some e → μ' b = some e)
    {done' : List Past} {p : Past} (hdone : ∀ q, q ∈ done' ↔ (q = p ∨ q ∈ done)) (hpi : p.i < ops.size) (hpL : L.getD p.i false = false) (hnew : ∀ q ∈ done', q.i = p.i → q = p) {v' : Value} (hv : VRel μ' p.v v') :
    FRel μ' n (FS n ops fr (done'.filter fun q => (L.setIfInBounds p.i true).getD q.i false)) (a.put (dstOf ops p.i) v').tmps := by
  have hLs : p.i < L.size := by rw [j.size]; exact hpi
  have hmem : ∀ q, q ∈ done'.filter (fun q => (L.setIfInBounds p.i true).getD q.i false) ↔ (q = p ∨ q ∈ done.filter fun q => L.getD q.i false) := by
    intro q
    rw [List.mem_filter, List.mem_filter, hdone, getD_set L p.i q.i hLs]
    constructor
    · rintro ⟨h1, h2⟩
      by_cases hq : q = p
      · exact .inl hq
      · right
        have hqi : q.i ≠ p.i := fun h' => hq (hnew q ((hdone q).2 h1) h')
        rw [if_neg hqi] at h2
        exact ⟨h1.resolve_left hq, h2⟩
    · rintro (rfl | ⟨h1, h2⟩)
      · exact ⟨.inl rfl, by simp⟩
      · refine ⟨.inr h1, ?_⟩
        by_cases hqi : q.i = p.i
        · rw [if_pos hqi]
        · rw [if_neg hqi]; exact h2
  have hlt : ∀ q ∈ done', q.i < ops.size := by
    intro q hq
    rcases (hdone q).1 hq with rfl | h'
    · exact hpi
    · exact j.lt hpl h'
  have hdst : ∀ q ∈ done', ∀ t, dstOf ops p.i = some t → dstOf ops q.i = some t → q = p := by
    intro q hq t h1 h2
    by_cases hqi : q.i = p.i
    · exact hnew q hq hqi
    · exact absurd h1 (hpl.dsts _ (hlt q hq) _ hpi hqi t h2)
  refine ⟨?_, fun t => ?_⟩
  · have := j.frame.1
    cases hd : dstOf ops p.i <;> simpa [Act.put] using this
  by_cases ht : dstOf ops p.i = some t
  · have hn := hpl.dst _ hpi t ht
    rw [FS_some (p := p) ((hmem p).2 (.inl rfl)) ht hn (fun q hq hqt => hdst q (List.mem_filter.1 hq).1 t ht hqt), ht]
    have := j.frame.1
    simp only [Act.put]
    rw [← this] at hn
    simpa [Array.getD_eq_getD_getElem?, hn] using hv
  · have heq : FS n ops fr (done'.filter fun q => (L.setIfInBounds p.i true).getD q.i false) t = FS n ops fr (done.filter fun q => L.getD q.i false) t := by
      by_cases hex : ∃ q ∈ done.filter (fun q => L.getD q.i false), dstOf ops q.i = some t
      · obtain ⟨q, hq, hqt⟩ := hex
        have hqd := (List.mem_filter.1 hq).1
        have hn := hpl.dst _ (j.lt hpl hqd) t hqt
        have huniq : ∀ r ∈ done', dstOf ops r.i = some t → r.i = q.i := by
          intro r hr hrt
          by_cases hri : r.i = q.i
          · exact hri
          · exact absurd hqt (hpl.dsts _ (hlt r hr) _ (j.lt hpl hqd) hri t hrt)
        have hnd : (done.map (·.i)).Nodup := by
          have := hpl.nodup
          rw [j.split, List.nodup_append] at this
          exact nodup_rev this.1
        have huq : ∀ r ∈ done, r.i = q.i → r = q := by
          intro r hr hri
          obtain ⟨A, B, hAB⟩ := List.append_of_mem hqd
          rw [hAB] at hnd hr
          simp only [List.map_append, List.map_cons, List.nodup_append, List.nodup_cons] at hnd
          rcases List.mem_append.1 hr with h' | h'
          · exact absurd hri (hnd.2.2 r.i (List.mem_map.2 ⟨r, h', rfl⟩) q.i (by simp))
          · rcases List.mem_cons.1 h' with h' | h'
            · exact h'
            · exact absurd (List.mem_map.2 ⟨r, h', hri⟩) hnd.2.1.1
        rw [FS_some (p := q) ((hmem q).2 (.inr hq)) hqt hn, FS_some (p := q) hq hqt hn]
        · intro r hr hrt; exact huq r (List.mem_filter.1 hr).1 (huniq r ((hdone r).2 (.inr (List.mem_filter.1 hr).1)) hrt)
        · intro r hr hrt
          rcases (hmem r).1 hr with rfl | h'
          · exact absurd hrt ht
          · exact huq r (List.mem_filter.1 h').1 (huniq r ((hdone r).2 (.inr (List.mem_filter.1 h').1)) hrt)
      · rw [FS_none, FS_none]
        · intro q hq hqt; exact hex ⟨q, hq, hqt⟩
        · intro q hq hqt
          rcases (hmem q).1 hq with rfl | h'
          · exact ht hqt
          · exact hex ⟨q, h', hqt⟩
    rw [heq]
    have hf := (j.frame.mono hup).2 t
    cases hd : dstOf ops p.i with
    | none => exact hf
    | some d =>
      simp only [Act.put]
      rw [Array.getD_eq_getD_getElem?] at hf ⊢
      rw [Array.getElem?_setIfInBounds_ne (fun h => ht (by rw [hd, h]))]
      exact hf

theorem J.pos (hpl : Plan n ops c) {L : Array Bool} {a : Act} {done : List Past} {rem : List Nat} (j : J P n ops fr K c μ₀ h₀ w₀ ds L a w done rem h μ) {p : Past} {S T : List Past} (he : done = T ++ p :: S) :
    ∀ q, q ∈ S.map (·.i) ↔ (q ∈ done.map (·.i) ∧ c.idxOf q < c.idxOf p.i) := by
  intro q
  have hc : c = (S.map (·.i)).reverse ++ p.i :: ((T.map (·.i)).reverse ++ rem) := by rw [j.split, he]; simp
  have hn := hpl.nodup
  rw [hc] at hn
  have := idx_lt (j := q) hn
  rw [← hc] at this
  rw [← this, List.mem_reverse]
  constructor
  · intro h'; exact ⟨by rw [he]; simp at h' ⊢; exact .inr (.inr h'), h'⟩
  · exact fun h' => h'.2
theorem J.pos0 (hpl : Plan n ops c) {L : Array Bool} {a : Act} {done : List Past} {rem : List Nat} {e : Nat} (j : J P n ops fr K c μ₀ h₀ w₀ ds L a w done (e :: rem) h μ) :
    ∀ q, q ∈ done.map (·.i) ↔ (q ∈ done.map (·.i) ∧ c.idxOf q < c.idxOf e) := by
  intro q
  have hc : c = (done.map (·.i)).reverse ++ e :: rem := j.split
  have hn := hpl.nodup
  rw [hc] at hn
  have := idx_lt (j := q) hn
  rw [← hc, List.mem_reverse] at this
  exact ⟨fun h' => ⟨h', this.1 h'⟩, fun h' => h'.1⟩

theorem newA_value {ρ : Operand → Value} {o : Op} {B : Blk} {f : Nat → Value} (hA : newA P ρ o = some (B, f)) {N id : Nat} {v' : Value} {μ' μ'' : Emb} (hv : VRel μ' (f N) v') : ∃ p, μ' N = some p ∧ (μ'' id = some p → VRel μ'' (f id) v') := by
  rcases newA_shape hA with rfl | ⟨i, m, rfl⟩ | rfl
  · cases hv with
    | ptr _ hb => exact ⟨_, hb, fun h' => .ptr _ h'⟩
  · simp only at hv
    generalize hnn : (Value.slice (some ⟨N, 0, none⟩) i m) = x at hv
    cases hv <;> simp at hnn
    case sl o n c hb hc hn => obtain ⟨⟨rfl, rfl⟩, rfl, rfl⟩ := hnn; exact ⟨_, hb, fun h' => .sl _ _ _ h' hc hn⟩
    case slO o n l c hb hn hl hx => obtain ⟨⟨rfl, rfl⟩, rfl, rfl⟩ := hnn; exact ⟨_, hb, fun h' => .slO _ _ _ _ h' hn hl hx⟩
    case slE o o' hb => obtain ⟨⟨rfl, rfl⟩, rfl, rfl⟩ := hnn; exact ⟨_, hb, fun h' => .slE _ _ h'⟩
    case slZ o o' hb => obtain ⟨⟨rfl, rfl⟩, rfl, rfl⟩ := hnn; exact ⟨_, hb, fun h' => .slZ _ _ h'⟩
  · cases hv with
    | map hb => exact ⟨_, hb, fun h' => .map h'⟩

theorem countP_off {f g : Nat → Bool} {i : Nat} : ∀ (l : List Nat), l.Nodup → i ∈ l → f i = true → g i = false → (∀ j, j ≠ i → g j = f j) → l.countP g + 1 = l.countP f := by
  intro l
  induction l with
  | nil => intro _ hi; simp at hi
  | cons x l ih =>
    intro hn hi hf hg hfg
    rw [List.nodup_cons] at hn
    by_cases hx : x = i
    · subst hx
      have : l.countP g = l.countP f := by
        refine List.countP_congr fun j hj => ?_
        rw [hfg j (fun h => hn.1 (h ▸ hj))]
      rw [List.countP_cons, List.countP_cons, hf, hg, this]
      simp
    · have hil : i ∈ l := by
        rcases List.mem_cons.1 hi with h' | h'
        · exact absurd h'.symm hx
        · exact h'
      rw [List.countP_cons, List.countP_cons, hfg x hx, ← ih hn.2 hil hf hg hfg]
      omega
def unlisted (ops : Array Oper) (L : Array Bool) : Nat := (List.range ops.size).countP fun i => !L.getD i false

theorem preds_mem {i j : Nat} {o : Oper} (ho : ops[i]? = some o) : j ∈ preds ops i ↔ ∃ e ∈ o.after, Region.binds .any e = true ∧ e.on = j := by
  simp only [preds, ho, Option.map_some, Option.getD_some, List.mem_map, List.mem_filter, Array.mem_toList_iff]
  constructor
  · rintro ⟨e, ⟨h1, h2⟩, h3⟩; exact ⟨e, h1, h2, h3⟩
  · rintro ⟨e, h1, h2, h3⟩; exact ⟨e, ⟨h1, h2⟩, h3⟩
theorem getD_tf {L : Array Bool} {i : Nat} (hi : i < L.size) : L.getD i true = L.getD i false := by
  simp [Array.getD_eq_getD_getElem?, hi]
theorem ready_iff {L : Array Bool} (hs : L.size = ops.size) {i : Nat} : i ∈ Region.ready .any ops L ↔ (i < ops.size ∧ L.getD i false = false ∧ ∀ j ∈ preds ops i, L.getD j false = true) := by
  rw [mem_ready]
  constructor
  · rintro ⟨h1, o, ho, h2⟩
    have hi := (Array.getElem?_eq_some_iff.1 ho).1
    refine ⟨hi, by rw [← getD_tf (by omega)]; exact h1, fun j hj => ?_⟩
    obtain ⟨e, e1, e2, rfl⟩ := (preds_mem ho).1 hj
    exact h2 e e1 e2
  · rintro ⟨hi, h1, h2⟩
    have ho : ops[i]? = some ops[i] := Array.getElem?_eq_getElem hi
    refine ⟨by rw [getD_tf (by omega)]; exact h1, ops[i], ho, fun e he hb => h2 _ ((preds_mem ho).2 ⟨e, he, hb, rfl⟩)⟩

theorem J.final (hpl : Plan n ops c) (hds : DOk m ds μ₀ h₀ w₀) {L : Array Bool} {a : Act} {done : List Past} {rem : List Nat} (j : J P n ops fr K c μ₀ h₀ w₀ ds L a w done rem h μ) (hall : ∀ i, i < ops.size → L.getD i false = true) :
    CPost n m μ₀ h₀ w₀ (NQ K) .normal a w := by
  obtain ⟨done', rem', h', j', hr⟩ := J.advance hpl rem done h j
  rcases hr with rfl | ⟨e, rest, o, rfl, ho, _, _⟩
  · refine ⟨μ, FS n ops fr done', h', j'.step, ?_, by rw [j'.defers]; exact hds.step j'.step, j'.can⟩
    have hfil : done'.filter (fun p => L.getD p.i false) = done' := List.filter_eq_self.2 fun p hp => hall _ (j'.lt hpl hp)
    rw [← hfil]; exact j'.frame
  · have hel := (Array.getElem?_eq_some_iff.1 ho).1
    obtain ⟨p, hp, hpe⟩ := j'.inn e (hall e hel)
    have hn := hpl.nodup
    rw [j'.split, List.nodup_append] at hn
    exact absurd rfl (hn.2.2 e (by simp; exact ⟨p, hp, hpe⟩) e (by simp))

theorem J.listed (hpl : Plan n ops c) {L : Array Bool} {a : Act} {done : List Past} {rem : List Nat} (j : J P n ops fr K c μ₀ h₀ w₀ ds L a w done rem h μ) (hr : Region.ready .any ops L = []) : ∀ i, i < ops.size → L.getD i false = true := by
  have key : ∀ m i, i < ops.size → c.idxOf i = m → L.getD i false = true := by
    intro m
    induction m using Nat.strongRecOn with
    | _ m ih =>
      intro i hi him
      cases hL : L.getD i false with
      | true => rfl
      | false =>
        exfalso
        have : i ∈ Region.ready .any ops L := (ready_iff j.size).2 ⟨hi, hL, fun q hq => by
          have hlt := hpl.pred i (hpl.all i hi) q hq
          have hqc : q ∈ c := by
            by_cases h' : q ∈ c
            · exact h'
            · rw [List.idxOf_eq_length h'] at hlt
              have := List.idxOf_lt_length_of_mem (hpl.all i hi)
              omega
          exact ih (c.idxOf q) (by omega) q (hpl.lt q hqc) rfl⟩
        rw [hr] at this; simp at this
  exact fun i hi => key _ i hi rfl

theorem J.any (hpl : Plan n ops c) (hds : DOk m ds μ₀ h₀ w₀) : ∀ (fuel : Nat) (L : Array Bool) (a : Act) (w : World) (done : List Past) (rem : List Nat) (h : Hp) (μ : Emb), J P n ops fr K c μ₀ h₀ w₀ ds L a w done rem h μ → unlisted ops L = fuel →
    wpAnyIn (Wd r0) 0 P .any ops (CPost n m μ₀ h₀ w₀ (NQ K)) fuel L a w := by
  intro fuel
  induction fuel with
  | zero =>
    intro L a w done rem h μ j hu
    have hall : ∀ i, i < ops.size → L.getD i false = true := by
      intro i hi
      have := List.countP_eq_zero.1 hu i (List.mem_range.2 hi)
      simpa using this
    refine ⟨?_, j.final hpl hds hall⟩
    refine List.eq_nil_iff_forall_not_mem.2 fun i hi => ?_
    obtain ⟨h1, h2, _⟩ := (ready_iff j.size).1 hi
    rw [hall i h1] at h2; simp at h2
  | succ fuel ih =>
    intro L a w done0 rem0 h0 μ j0 hu
    refine ⟨fun hr => j0.final hpl hds (j0.listed hpl hr), ?_⟩
    intro i hi
    obtain ⟨hil, hiL, hpr⟩ := (ready_iff j0.size).1 hi
    have hoi : ops[i]? = some ops[i] := Array.getElem?_eq_getElem hil
    have hsz : i < L.size := by rw [j0.size]; exact hil
    have hu' : unlisted ops (L.setIfInBounds i true) = fuel := by
      have := countP_off (f := fun k => !L.getD k false) (g := fun k => !(L.setIfInBounds i true).getD k false) (i := i) (List.range ops.size) List.nodup_range (List.mem_range.2 hil) (by simp only [hiL]; rfl)
        (by simp only [getD_set L i i hsz]; simp) (fun k hk => by simp only [getD_set L i k hsz, if_neg hk])
      unfold unlisted at hu ⊢
      omega
    have hdown' : ∀ k, (L.setIfInBounds i true).getD k false = true → ∀ q ∈ preds ops k, (L.setIfInBounds i true).getD q false = true := by
      intro k hk q hq
      rw [getD_set L i q hsz]
      split
      · rfl
      · rw [getD_set L i k hsz] at hk
        by_cases hki : k = i
        · subst hki; exact hpr q hq
        · rw [if_neg hki] at hk; exact j0.down k hk q hq
    obtain ⟨done, rem, h, j, hrem⟩ := J.advance hpl rem0 done0 h0 j0
    have hnd : (done.map (·.i)).Nodup := by
      have := hpl.nodup
      rw [j.split, List.nodup_append] at this
      exact nodup_rev this.1
    have huniq : ∀ p ∈ done, ∀ q ∈ done, q.i = p.i → q = p := by
      intro p hp q hq hqi
      obtain ⟨A, B, hAB⟩ := List.append_of_mem hp
      rw [hAB] at hnd hq
      simp only [List.map_append, List.map_cons, List.nodup_append, List.nodup_cons] at hnd
      rcases List.mem_append.1 hq with h' | h'
      · exact absurd hqi (hnd.2.2 q.i (List.mem_map.2 ⟨q, h', rfl⟩) p.i (by simp))
      · rcases List.mem_cons.1 h' with h' | h'
        · exact h'
        · exact absurd (List.mem_map.2 ⟨q, h', hqi⟩) hnd.2.1.1
    unfold wpOpIn
    rw [hoi]
    simp only
    by_cases hin : ∃ p ∈ done, p.i = i
    · -- it was met in the one order
      obtain ⟨p, hp, hpi⟩ := hin
      obtain ⟨T, S, hTS⟩ := List.append_of_mem hp
      have hpos := j.pos hpl hTS
      have hlk := j.looks_eq hpl (S := S) (T := T ++ [p]) (i := i) hil hpr hiL (by rw [hTS]; simp) (by rw [← hpi]; exact hpos)
      obtain ⟨⟨o, ho, hwant, hmade⟩, hstill⟩ := j.past p S T hTS
      rw [hpi] at ho
      have hoo : o = ops[i] := Option.some.inj (ho.symm.trans hoi)
      have hstill := hstill (by rw [hpi]; exact hiL)
      -- the rest of the relation, once it is done
      have hJ : ∀ {a' : Act} {w' : World} {μ' : Emb}, (∀ b e, μ b = some e → μ' b = some e) → Step μ₀ h₀ w₀ μ' h w' → (∀ q ∈ done, q ≠ p → ∀ B id, q.k = .made B id → L.getD q.i false = false → μ' id = none) →
          FRel μ' n (FS n ops fr (done.filter fun q => (L.setIfInBounds i true).getD q.i false)) a'.tmps → a'.defers = ds →
          J P n ops fr K c μ₀ h₀ w₀ ds (L.setIfInBounds i true) a' w' done rem h μ' := by
        intro a' w' μ' hup hs hm hf hd
        refine ⟨by simpa using j.size, j.split, j.can, hdown', ?_, ?_, hs, hf, hd, ?_, j.low, j.ids, ?_⟩
        · intro k hk
          rw [getD_set L i k hsz] at hk
          by_cases hki : k = i
          · exact ⟨p, hp, by rw [hki]; exact hpi⟩
          · rw [if_neg hki] at hk; exact j.inn k hk
        · intro q hq hk
          rw [getD_set L i q.i hsz]
          split
          · rfl
          · exact j.eff q hq hk
        · intro q hq B id hk
          refine ⟨(j.made q hq B id hk).1, fun hL => ?_⟩
          rw [getD_set L i q.i hsz] at hL
          by_cases hqi : q.i = i
          · rw [if_pos hqi] at hL; simp at hL
          · rw [if_neg hqi] at hL
            exact hm q hq (fun h' => hqi (by rw [h']; exact hpi)) B id hk hL
        · intro q S' T' hq
          refine ⟨(j.past q S' T' hq).1, fun hL => (j.past q S' T' hq).2 ?_⟩
          rw [getD_set L i q.i hsz] at hL
          by_cases hqi : q.i = i
          · rw [if_pos hqi] at hL; simp at hL
          · rw [if_neg hqi] at hL; exact hL
      have hadd : ∀ {μ' : Emb} {v' : Value}, (∀ b e, μ b = some e → μ' b = some e) → VRel μ' p.v v' → FRel μ' n (FS n ops fr (done.filter fun q => (L.setIfInBounds i true).getD q.i false)) (a.put (ops[i]).dst v').tmps := by
        intro μ' v' hup hv
        have := frame_add hpl j hup (done' := done) (p := p) (fun q => ⟨fun h' => .inr h', fun h' => by rcases h' with rfl | h' <;> assumption⟩) (by rw [hpi]; exact hil) (by rw [hpi]; exact hiL) (fun q hq hqi => huniq p hp q hq hqi) hv
        rw [hpi] at this
        have hdd : dstOf ops i = (ops[i]).dst := by simp [dstOf, hoi]
        rw [hdd] at this
        exact this
      rcases hwant with ⟨hk, hv, hw⟩ | ⟨hk, hw⟩
      · have hw' : wantA ops ops[i] (FS n ops fr (done.filter fun p => L.getD p.i false)) = some false := by
          rw [wantA_congr hoi hlk, ← hoo]; exact hw
        rw [if_neg (by rw [wantA_ok j.frame hw']; simp)]
        refine ⟨fun _ _ => trivial, ?_⟩
        refine ih _ _ _ done rem h μ (hJ (fun _ _ h => h) j.step (fun q hq hne B id hk hL => (j.made q hq B id hk).2 hL) (hadd (fun _ _ h => h) (by rw [hv]; exact .sk)) (by rw [put_defers]; exact j.defers)) hu'
      · have hw' : wantA ops ops[i] (FS n ops fr (done.filter fun p => L.getD p.i false)) = some true := by
          rw [wantA_congr hoi hlk, ← hoo]; exact hw
        rw [if_pos (wantA_ok j.frame hw')]
        have hev := evalA_congr (o := ops[i]) hoi hlk
        unfold stillP at hstill
        split at hstill
        · rename_i hke
          have := j.eff p hp hke
          rw [hpi, hiL] at this; simp at this
        · rename_i hks
          exact absurd hks hk
        · obtain ⟨o', ho', hop⟩ := hstill
          rw [hpi] at ho'
          have hoo' : o' = ops[i] := Option.some.inj (ho'.symm.trans hoi)
          subst hoo'
          rw [← opA_congr hev] at hop
          obtain ⟨μ', v', w', e1, e2, e3⟩ := opA_ok (P := P) j.step.rel j.frame (o := ops[i]) hop
          have hup := e3.up j.step.rel
          have hcont : wpAnyIn (Wd r0) 0 P .any ops (CPost n m μ₀ h₀ w₀ (NQ K)) fuel (L.setIfInBounds i true) (a.put (ops[i]).dst v') w' := by
            refine ih _ _ _ done rem h μ' (hJ hup (j.step.trans e3) (fun q hq hne B id hk hL => ?_) (hadd hup e2) (by rw [put_defers]; exact j.defers)) hu'
            have h1 := (j.made q hq B id hk).2 hL
            obtain ⟨A, D, hAD⟩ := List.append_of_mem hq
            have h2 := (j.past q D A hAD).2 hL
            simp only [stillP, hk] at h2
            rw [e3.sub id (hp_lt h2)]; exact h1
          exact wpOper (opA_defer hop) (upon_value e1 hcont)
        · rename_i B id hkm
          obtain ⟨f, hnew, hpv⟩ := hmade B id hkm
          rw [hoo] at hnew
          rw [← newA_congr hev] at hnew
          have hgood := newA_good j.frame hnew
          obtain ⟨μ', v', w', e1, e2, e3⟩ := opA_ok (P := P) j.step.rel j.frame (o := ops[i]) (newA_op hnew h)
          obtain ⟨hlt, hnone⟩ := j.made p hp B id hkm
          have hnone := hnone (by rw [hpi]; exact hiL)
          obtain ⟨pl, hpl1, hpl2⟩ := newA_value hnew (id := id) (μ'' := μ.put id (((μ' h.length)).getD ⟨0, 0, 0, 0⟩)) e2
          rw [hpl1] at hpl2
          simp only [Option.getD_some] at hpl2
          have hv2 := hpl2 (Emb.put_new _ _ _)
          have hfill := Step.fill j.step e3 hpl1 hstill hnone hgood hlt
          have hup2 : ∀ b e, μ b = some e → (μ.put id pl) b = some e := by
            intro b e hb
            simp only [Emb.put]
            split
            · rename_i h'; subst h'; rw [hnone] at hb; simp at hb
            · exact hb
          have hcont : wpAnyIn (Wd r0) 0 P .any ops (CPost n m μ₀ h₀ w₀ (NQ K)) fuel (L.setIfInBounds i true) (a.put (ops[i]).dst v') w' := by
            refine ih _ _ _ done rem h (μ.put id pl) (hJ hup2 hfill (fun q hq hne B' id' hk hL => ?_) (hadd hup2 (by rw [hpv]; exact hv2)) (by rw [put_defers]; exact j.defers)) hu'
            have h1 := (j.made q hq B' id' hk).2 hL
            simp only [Emb.put]
            split
            · rename_i hidd
              exfalso
              subst hidd
              have hq' := hq
              rw [hTS] at hq'
              rcases List.mem_append.1 hq' with h' | h'
              · obtain ⟨A, D, hAD⟩ := List.append_of_mem h'
                have := j.ids q (D ++ p :: S) A (by rw [hTS, hAD]; simp) B' _ hk p (by simp) B _ hkm
                omega
              · rcases List.mem_cons.1 h' with h' | h'
                · exact hne h'
                · have := j.ids p S T hTS B _ hkm q h' B' _ hk
                  omega
            · exact h1
          exact wpOper (opA_defer (newA_op hnew h)) (upon_value e1 hcont)
    · -- it is the one that acts, next
      rcases hrem with rfl | ⟨e, rest, o, rfl, hoe, heff, hwe⟩
      · exfalso
        have hic := hpl.all i hil
        rw [j.split] at hic
        simp at hic
        obtain ⟨p, hp, hpi⟩ := hic
        exact hin ⟨p, hp, hpi⟩
      have hie : i = e := by
        by_cases hie : i = e
        · exact hie
        · exfalso
          have hec : e ∈ c := by rw [j.split]; simp
          have hidx : ∀ k, c.idxOf k < c.idxOf e ↔ ∃ p ∈ done, p.i = k := by
            intro k
            have hcc : c = (done.map (·.i)).reverse ++ e :: rest := j.split
            have hn := hpl.nodup
            rw [hcc] at hn
            have := idx_lt (j := k) hn
            rw [← hcc, List.mem_reverse, List.mem_map] at this
            exact this.symm
          have h1 : ¬ c.idxOf i < c.idxOf e := fun h' => hin ((hidx i).1 h')
          have hic := hpl.all i hil
          have hne : c.idxOf i ≠ c.idxOf e := fun h' => hie (by
            have h2 := List.getElem_idxOf (List.idxOf_lt_length_of_mem hic)
            have h3 := List.getElem_idxOf (List.idxOf_lt_length_of_mem hec)
            rw [← h2, ← h3]
            congr 1)
          rcases hpl.eager e hec o hoe heff i hic with h' | ⟨k, hk, hk'⟩
          · omega
          · obtain ⟨p, hp, hpk⟩ := j.inn k (hpr k hk)
            have := (hidx k).2 ⟨p, hp, hpk⟩
            omega
      subst hie
      have hoo : o = ops[i] := Option.some.inj (hoe.symm.trans hoi)
      subst hoo
      have hlk := j.looks_eq hpl (S := done) (T := []) (i := i) hil hpr hiL (by simp) (j.pos0 hpl)
      have hw' : wantA ops ops[i] (FS n ops fr (done.filter fun p => L.getD p.i false)) = some true := by
        rw [wantA_congr hoi hlk]; exact hwe
      rw [if_pos (wantA_ok j.frame hw')]
      have hev := evalA_congr (o := ops[i]) hoi hlk
      have hcan := j.can
      simp only [Can, hoi, hwe] at hcan
      have hcan := hcan.2 trivial
      rw [if_pos heff] at hcan
      -- the relation behind it
      have hJ : ∀ {v v' : Value} {h' : Hp} {w' : World} {μ' : Emb}, Step μ h w μ' h' w' → VRel μ' v v' → stillAll P n ops fr (ancs ops ops.size i) h' done → Can P n ops fr K rest (⟨i, v, .eff⟩ :: done) h' →
          J P n ops fr K c μ₀ h₀ w₀ ds (L.setIfInBounds i true) (a.put (ops[i]).dst v') w' (⟨i, v, .eff⟩ :: done) rest h' μ' := by
        intro v v' h' w' μ' hs hv hst hc
        have hup := hs.up j.step.rel
        refine ⟨by simpa using j.size, by rw [j.split]; simp, hc, hdown', ?_, ?_, j.step.trans hs, ?_, by rw [put_defers]; exact j.defers, ?_, ?_, ?_, ?_⟩
        · intro k hk
          rw [getD_set L i k hsz] at hk
          by_cases hki : k = i
          · exact ⟨⟨i, v, .eff⟩, by simp, hki.symm⟩
          · rw [if_neg hki] at hk
            obtain ⟨p, hp, hpk⟩ := j.inn k hk
            exact ⟨p, by simp [hp], hpk⟩
        · intro q hq hk
          rw [getD_set L i q.i hsz]
          split
          · rfl
          · rename_i hne
            rcases List.mem_cons.1 hq with rfl | hq
            · exact absurd rfl hne
            · exact j.eff q hq hk
        · have := frame_add hpl j hup (done' := ⟨i, v, .eff⟩ :: done) (p := ⟨i, v, .eff⟩) (fun q => List.mem_cons) hil hiL (fun q hq hqi => by
            rcases List.mem_cons.1 hq with h' | h'
            · exact h'
            · exact absurd ⟨q, h', hqi⟩ hin) hv
          have hdd : dstOf ops i = (ops[i]).dst := by simp [dstOf, hoi]
          simp only [hdd] at this
          exact this
        · intro q hq B id hk
          rcases List.mem_cons.1 hq with rfl | hq
          · simp at hk
          · refine ⟨(j.made q hq B id hk).1, fun hL => ?_⟩
            rw [getD_set L i q.i hsz] at hL
            by_cases hqi : q.i = i
            · rw [if_pos hqi] at hL; simp at hL
            · rw [if_neg hqi] at hL
              rw [hs.sub id (j.low q hq B id hk)]
              exact (j.made q hq B id hk).2 hL
        · intro q hq B id hk
          rcases List.mem_cons.1 hq with rfl | hq
          · simp at hk
          · exact Nat.lt_of_lt_of_le (j.low q hq B id hk) hs.len
        · intro q S T he B id hk
          cases T with
          | nil => simp at he; obtain ⟨rfl, rfl⟩ := he; simp at hk
          | cons r T => simp at he; exact j.ids q S T he.2 B id hk
        · intro q S T he
          cases T with
          | nil =>
            simp at he; obtain ⟨rfl, rfl⟩ := he
            exact ⟨⟨ops[i], hoi, .inr ⟨by simp, hwe⟩, by simp⟩, fun _ => trivial⟩
          | cons r T =>
            simp at he
            refine ⟨(j.past q S T he.2).1, fun hL => (stillAll_at done hst q S T he.2).resolve_left fun hc => ?_⟩
            have hq := anc_mem L j.down _ i hpr q.i (by simpa using hc)
            rw [getD_set L i q.i hsz] at hL
            split at hL
            · simp at hL
            · rw [hq] at hL; simp at hL
      split at hcan
      · exact hcan.elim
      · rename_i v h' hop
        rw [← opA_congr hev] at hop
        obtain ⟨μ', v', w', e1, e2, e3⟩ := opA_ok (P := P) j.step.rel j.frame (o := ops[i]) hop
        have hcont := ih _ _ _ _ _ _ _ (hJ e3 e2 hcan.1 hcan.2) hu'
        exact wpOper (opA_defer hop) (upon_value e1 hcont)
      · rename_i f args hop
        rw [← opA_congr hev] at hop
        obtain ⟨vs, e1, e2⟩ := opA_ok (P := P) j.step.rel j.frame (o := ops[i]) hop hcan.1
        refine wpOper (opA_defer hop) (upon_enter e1 (hcan.2 μ w vs j.step.rel e2) ?_)
        rintro en w' ⟨μ', h', r, v, rfl, s, hv, hq⟩
        exact ⟨v, rfl, ih _ _ _ _ _ _ _ (hJ s hv hq.1 hq.2) hu'⟩
      · rename_i b args hop
        rw [← opA_congr hev] at hop
        obtain ⟨e, vs, e1, e2, e3⟩ := opA_ok (P := P) j.step.rel j.frame (o := ops[i]) hop
        obtain ⟨r, g1, g2, g3⟩ := RoundA.ok r0 j.step.rel hcan e1 e2
        refine wpOper (opA_defer hop) (upon_round (e3 r g1 g2) g3 ?_)
        rintro en w' ⟨μ', h', r, v, rfl, s, hv, hq⟩
        exact ⟨v, rfl, ih _ _ _ _ _ _ _ (hJ s hv hq.1 hq.2) hu'⟩

/-- **A statement that may come in several orders**: by one of them. -/
theorem WpA.draw {id : Nat} {Q : QA} (c : List Nat) (hm : P.follows .mixedOrders = true) (hpl : planOk n ops c = true) (hc : Can P n ops fr (fun fr h => Q .normal fr h) c [] h) : WpA P n (.region id ops true) Q fr h := by
  intro r m μ w a _ hr hf hd
  have hd0 : { w with drawn := w.drawn + 1 } = w.drew := rfl
  refine wpIn_mono (wpIn_region_any hm (Q := CPost n m μ h w (NQ fun fr h => Q .normal fr h)) ?_) ?_
  · have hu : unlisted ops (Array.replicate ops.size false) = ops.size := by
      unfold unlisted
      have : (List.range ops.size).countP (fun i => !(Array.replicate ops.size false).getD i false) = (List.range ops.size).length := by
        refine List.countP_eq_length.2 fun i hi => ?_
        have := List.mem_range.1 hi
        simp [Array.getD_eq_getD_getElem?, this]
      rw [this]; simp
    refine J.any (planOk_spec hpl) hd ops.size _ _ _ [] c h μ ⟨by simp, by simp, hc, ?_, ?_, by simp, Step.drew hr, ?_, rfl, by simp, by simp, by simp, by simp⟩ hu
    · intro i hi
      simp [Array.getD_eq_getD_getElem?, Array.getElem?_replicate] at hi
      split at hi <;> simp at hi
    · intro i hi
      simp [Array.getD_eq_getD_getElem?, Array.getElem?_replicate] at hi
      split at hi <;> simp at hi
    · simpa [FS] using hf
  · rintro e a' w' ⟨μ', fr', h', s, r1, r2, r3⟩
    cases e <;> first | exact ⟨μ', fr', h', s, r1, r2, r3⟩ | exact r3.elim
end
end Go.Ab
