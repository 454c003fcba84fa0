/- Jobs, plainly: as whatever was done they could stand as they do, and their bytes are read as they are; no condition. -/
import Derived.Test.YtklhioaokogpdaaLoad25
namespace Go.Proofs.Ytklhioaokogpdaa
open Go.Ab
def MayRun (y : Jb) (l : List St) (x : St) : Prop := passA y l = true ∧ (y.manual = false ∨ x.played = true)
/-- a job could stand as it does, state by state -/
structure CP (y : Jb) (l : List St) (x : St) : Prop where
  pm : x.played = true → y.manual = true
  tt : x.tried ≤ y.tries
  w : x.s = 1 ∨ x.s = 2 ∨ x.s = 10 → x = ⟨nextA y l false, 0, 0, 0, 0, false⟩
  r3 : x.s = 3 → MayRun y l x ∧ x.tried < y.tries ∧ x.badge = 0 ∧ x.since = 0 ∧ x.code = 0
  r4 : x.s = 4 → MayRun y l x ∧ 1 ≤ x.tried ∧ 1 ≤ x.badge ∧ x.code = 0
  r5 : x.s = 5 ∨ x.s = 8 ∨ x.s = 11 → MayRun y l x ∧ 1 ≤ x.tried ∧ 1 ≤ x.badge ∧ x.since = 0 ∧ x.code = 0
  r6 : x.s = 6 → MayRun y l x ∧ 1 ≤ x.tried ∧ 1 ≤ x.badge ∧ x.since = 0 ∧ x.tried = y.tries ∧ 1 ≤ x.code
  r7 : x.s = 7 → MayRun y l x ∧ 1 ≤ x.tried ∧ 1 ≤ x.badge ∧ x.since = 0 ∧ x.tried = y.tries ∧ x.code = 0
  r9 : x.s = 9 → x.badge = 0 ∧ x.since = 0 ∧ x.code = 0 ∧ ((x.tried = 0 ∧ x.played = false) ∨ passA y l = true) ∧ (x.tried = 0 ∨ MayRun y l x)
theorem mayRunB_iff {y : Jb} {l : List St} {x : St} : mayRunB y l x = true ↔ MayRun y l x := by
  unfold mayRunB MayRun
  cases passA y l <;> cases y.manual <;> cases x.played <;> simp
theorem CP.could {y : Jb} {l : List St} {x : St} (c : CP y l x) (hs : 1 ≤ x.s ∧ x.s ≤ 11) : couldP y l x = true := by
  have hneg : ¬ ((x.played = true ∧ y.manual = false) ∨ y.tries < x.tried) := by
    rintro (⟨h1, h2⟩ | h1)
    · rw [c.pm h1] at h2; cases h2
    · have := c.tt; omega
  unfold couldP
  rw [if_neg hneg]
  by_cases h1 : x.s = 1 ∨ x.s = 2 ∨ x.s = 10
  · rw [if_pos h1]
    have h2 := c.w h1
    generalize hn : nextA y l false = n at h2
    rw [h2]
    simp [stEq]
  rw [if_neg h1]
  by_cases h3 : x.s = 3
  · rw [if_pos h3]
    obtain ⟨a, b, d, e, f⟩ := c.r3 h3
    rw [mayRunB_iff.2 a]; simp [b, d, e, f]
  rw [if_neg h3]
  by_cases h4 : x.s = 4
  · rw [if_pos h4]
    obtain ⟨a, b, d, e⟩ := c.r4 h4
    unfold ranB
    rw [mayRunB_iff.2 a]; simp [b, d, e]
  rw [if_neg h4]
  by_cases h5 : x.s = 5 ∨ x.s = 8 ∨ x.s = 11
  · rw [if_pos h5]
    obtain ⟨a, b, d, e, f⟩ := c.r5 h5
    unfold ranB
    rw [mayRunB_iff.2 a]; simp [b, d, e, f]
  rw [if_neg h5]
  by_cases h6 : x.s = 6
  · rw [if_pos h6]
    obtain ⟨a, b, d, e, f, g⟩ := c.r6 h6
    unfold ranB
    rw [mayRunB_iff.2 a, decide_eq_true b, decide_eq_true d, decide_eq_true e, decide_eq_true f, decide_eq_true g]; rfl
  rw [if_neg h6]
  by_cases h7 : x.s = 7
  · rw [if_pos h7]
    obtain ⟨a, b, d, e, f, g⟩ := c.r7 h7
    unfold ranB
    rw [mayRunB_iff.2 a, decide_eq_true b, decide_eq_true d, decide_eq_true e, decide_eq_true f, decide_eq_true g]; rfl
  rw [if_neg h7]
  have h9 : x.s = 9 := by omega
  rw [if_pos h9]
  obtain ⟨a, b, d, e, f⟩ := c.r9 h9
  have hM := @mayRunB_iff y l x
  rw [decide_eq_true a, decide_eq_true b, decide_eq_true d]
  have e' : ((decide (x.tried = 0) && !x.played) || passA y l) = true := by
    rcases e with ⟨e1, e2⟩ | e1
    · rw [decide_eq_true e1, e2]; rfl
    · rw [e1]; simp
  have f' : (decide (x.tried = 0) || mayRunB y l x) = true := by
    rcases f with f1 | f1
    · rw [decide_eq_true f1]; rfl
    · rw [hM.2 f1]; simp
  rw [e', f']; rfl
/-- what is needed and passed stays so; so does what is broken -/
theorem CP.mono {y : Jb} {l m : List St} {x : St} (c : CP y l x) (hp : passA y l = true → passA y m = true) (hb : brokA y l = true → brokA y m = true) (h1 : x.s ≠ 1) : CP y m x := by
  have hM : MayRun y l x → MayRun y m x := fun ⟨a, b⟩ => ⟨hp a, b⟩
  refine ⟨c.pm, c.tt, fun h => ?_, fun h => ?_, fun h => ?_, fun h => ?_, fun h => ?_, fun h => ?_, fun h => ?_⟩
  · have h2 := c.w h
    have hs : nextA y l false = x.s := by rw [h2]
    have : nextA y m false = nextA y l false := by
      rcases nextA_cases y l false with ⟨g, gb⟩ | ⟨g, _⟩ | ⟨⟨g, _⟩, gp⟩ | ⟨g, _⟩
      · rw [g]; unfold nextA; rw [if_pos (hb gb)]
      · rw [g] at hs; exact absurd hs.symm h1
      · rw [g]
        have hm : y.manual = true := by
          unfold nextA at g
          rw [brokA_of_pass gp, gp] at g
          cases hmm : y.manual with
          | true => rfl
          | false => rw [hmm] at g; simp at g
        unfold nextA
        rw [brokA_of_pass (hp gp), hp gp, hm]; rfl
      · omega
    rw [this]; exact h2
  · obtain ⟨a, b⟩ := c.r3 h; exact ⟨hM a, b⟩
  · obtain ⟨a, b⟩ := c.r4 h; exact ⟨hM a, b⟩
  · obtain ⟨a, b⟩ := c.r5 h; exact ⟨hM a, b⟩
  · obtain ⟨a, b⟩ := c.r6 h; exact ⟨hM a, b⟩
  · obtain ⟨a, b⟩ := c.r7 h; exact ⟨hM a, b⟩
  · obtain ⟨a, b, d, e, f⟩ := c.r9 h
    exact ⟨a, b, d, e.imp id hp, f.imp id hM⟩
/-- a job that waits, settled -/
theorem CP.fresh {y : Jb} {m : List St} (ht : 0 < y.tries) : CP y m ⟨nextA y m false, 0, 0, 0, 0, false⟩ := by
  refine ⟨fun h => by simp at h, by show (0 : Int) ≤ _; omega, fun _ => rfl, fun h => ?_, fun h => ?_, fun h => ?_, fun h => ?_, fun h => ?_, fun h => ?_⟩
  all_goals simp only at h
  · rcases nextA_cases y m false with ⟨g, _⟩ | ⟨g, _⟩ | ⟨⟨g, _⟩, _⟩ | ⟨g, gp⟩
    · omega
    · omega
    · omega
    · refine ⟨⟨gp, ?_⟩, ht, rfl, rfl, rfl⟩
      unfold nextA at g
      rw [brokA_of_pass gp, gp] at g
      cases hmm : y.manual with
      | true => rw [hmm] at g; simp at g
      | false => exact .inl rfl
  all_goals
    rcases nextA_cases y m false with ⟨g, _⟩ | ⟨g, _⟩ | ⟨⟨g, _⟩, _⟩ | ⟨g, _⟩ <;> omega
/-- values within their limits -/
def ValR (x : St) : Prop := 0 ≤ x.tried ∧ (0 ≤ x.badge ∧ x.badge ≤ 2147483647) ∧ (0 ≤ x.since ∧ x.since ≤ 2147483647) ∧ (0 ≤ x.code ∧ x.code ≤ 999)
structure Good (js : List Jb) (l : List St) : Prop where
  inv : Inv js l
  cp : ∀ k, k < l.length → CP (js.getD k Jb.no) l (l.getD k St.no)
  val : ∀ k, k < l.length → ValR (l.getD k St.no)
theorem Good.new {js : List Jb} (wf : WfJ js) (ht : ∀ k, k < js.length → 0 < (js.getD k Jb.no).tries) : Good js (settle js (List.replicate js.length St.no)) := by
  have hlen : (settle js (List.replicate js.length St.no)).length = js.length := by rw [settle_len, List.length_replicate]
  have hat : ∀ k, k < js.length → (settle js (List.replicate js.length St.no)).getD k St.no = ⟨nextA (js.getD k Jb.no) (settle js (List.replicate js.length St.no)) false, 0, 0, 0, 0, false⟩ := by
    intro k hk
    have hg : (List.replicate js.length St.no).getD k St.no = St.no := by rw [List.getD_eq_getElem?_getD, List.getElem?_replicate, if_pos hk]; rfl
    have := settle_at wf (List.replicate js.length St.no) (k := k) (by simpa using hk)
    rw [this]
    simp only [stA, hg]; rfl
  refine ⟨new_inv wf ht, fun k hk => ?_, fun k hk => ?_⟩
  · rw [hlen] at hk
    rw [hat k hk]
    exact CP.fresh (ht k hk)
  · rw [hlen] at hk
    rw [hat k hk]
    exact ⟨by simp, by simp, by simp, by simp⟩
/-- one job is turned, and all are settled -/
theorem Good.turn {js : List Jb} {l : List St} (wf : WfJ js) (h : Good js l) {i : Nat} (hi : i < l.length) (y : St) (hx : endS (stA l i) = false) (hy : 1 < y.s ∧ y.s ≤ 11)
    (ht : y.tried ≤ (js.getD i Jb.no).tries ∧ (y.s ≤ 3 → y.tried < (js.getD i Jb.no).tries)) (hp : 2 ≤ y.s → y.s ≤ 6 → passA (js.getD i Jb.no) l = true) (hc : CP (js.getD i Jb.no) l y) (hv : ValR y) : Good js (settle js (l.set i y)) := by
  obtain ⟨a1, a2, a3, a4, _, _⟩ := h.inv.step wf hi y hx ⟨by omega, hy.2⟩ ht hp
  have hlen : (settle js (l.set i y)).length = l.length := by rw [settle_len, List.length_set]
  have hne : ∀ n, stA l n = 5 ∨ (stA l n ≠ 5 ∧ endS (stA l n) = true) → stA (settle js (l.set i y)) n = stA l n := by
    intro n hn
    have h1 : stA l n ≠ 1 := by
      intro e; rw [e] at hn; simp [endS] at hn
    have h2 : n ≠ i := by
      intro e; subst e
      rcases hn with hn | hn
      · rw [hn] at hx; simp [endS] at hx
      · rw [hn.2] at hx; cases hx
    unfold stA; rw [a2 n h2 h1]
  have hpass : ∀ z, passA z l = true → passA z (settle js (l.set i y)) = true := by
    intro z hz
    unfold passA at hz ⊢
    rw [List.all_eq_true] at hz ⊢
    intro n hn
    have := hz n hn
    simp only [decide_eq_true_eq] at this ⊢
    rw [hne n (.inl this)]; exact this
  have hbrok : ∀ z, brokA z l = true → brokA z (settle js (l.set i y)) = true := by
    intro z hz
    unfold brokA at hz ⊢
    rw [List.any_eq_true] at hz ⊢
    obtain ⟨n, hn, hh⟩ := hz
    simp only [Bool.and_eq_true, decide_eq_true_eq] at hh
    exact ⟨n, hn, by rw [hne n (.inr hh)]; simp [hh.1, hh.2]⟩
  refine ⟨a1, fun k hk => ?_, fun k hk => ?_⟩
  · rw [hlen] at hk
    by_cases e : k = i
    · subst e
      rw [a3 (by omega)]
      exact hc.mono (hpass _) (hbrok _) (by omega)
    · by_cases e1 : stA l k = 1
      · have hw := (h.cp k hk).w (.inl e1)
        have hk4 := a4 k hk
        rw [if_neg e] at hk4
        have hs := settle_at wf (l.set i y) (k := k) (by simpa using hk)
        have hz : (l.set i y).getD k St.no = l.getD k St.no := by rw [getD_set l y hi, if_neg e]
        have hz1 : stA (l.set i y) k = 1 := by unfold stA; rw [hz]; exact e1
        rw [if_pos hz1, hz] at hs
        have hpl : (l.getD k St.no).played = false := by rw [hw]
        rw [hpl] at hs
        have : (settle js (l.set i y)).getD k St.no = ⟨nextA (js.getD k Jb.no) (settle js (l.set i y)) false, 0, 0, 0, 0, false⟩ := by
          rw [hs]
          generalize nextA (js.getD k Jb.no) (settle js (l.set i y)) false = n
          rw [hw]; rfl
        rw [this]
        have htk := (h.inv.tr k hk).2 (by omega)
        have h0 := (h.val k hk).1
        exact CP.fresh (by omega)
      · rw [a2 k e e1]
        exact (h.cp k hk).mono (hpass _) (hbrok _) e1
  · rw [hlen] at hk
    rw [a4 k hk]
    by_cases e : k = i
    · rw [if_pos e]; exact hv
    · rw [if_neg e]; exact h.val k hk
theorem same_tests {l : List St} {i : Nat} (hi : i < l.length) (y : St) (h1 : ¬ endS (stA l i) = true) (h2 : ¬ endS y.s = true) : (∀ z, passA z (l.set i y) = passA z l) ∧ (∀ z, brokA z (l.set i y) = brokA z l) := by
  have hst : ∀ k, stA (l.set i y) k = if k = i then y.s else stA l k := by
    intro k; unfold stA; rw [getD_set l y hi]; split <;> rfl
  have h5 : stA l i ≠ 5 := fun e => by rw [e] at h1; simp [endS] at h1
  have h5' : y.s ≠ 5 := fun e => by rw [e] at h2; simp [endS] at h2
  rw [Bool.not_eq_true] at h1 h2
  constructor
  · intro z; unfold passA
    congr 1; funext n
    rw [hst n]; split
    · rename_i e; subst e; simp [h5, h5']
    · rfl
  · intro z; unfold brokA
    congr 1; funext n
    rw [hst n]; split
    · rename_i e; subst e; simp [h1, h2]
    · rfl
/-- a job is turned that neither was nor is at its end: nothing is to be settled -/
theorem Good.turn2 {js : List Jb} {l : List St} (h : Good js l) {i : Nat} (hi : i < l.length) (y : St) (h1 : ¬ endS (stA l i) = true) (h2 : ¬ endS y.s = true)
    (hinv : Inv js (l.set i y)) (hc : CP (js.getD i Jb.no) l y) (hv : ValR y) : Good js (l.set i y) := by
  obtain ⟨hp, hb⟩ := same_tests hi y h1 h2
  have hcong : ∀ (z : Jb) (x : St), CP z l x → CP z (l.set i y) x := by
    intro z x c
    have hn : ∀ p, nextA z (l.set i y) p = nextA z l p := fun p => by unfold nextA; rw [hp, hb]
    obtain ⟨c1, c2, c3, c4, c5, c6, c7, c8, c9⟩ := c
    refine ⟨c1, c2, ?_, ?_, ?_, ?_, ?_, ?_, ?_⟩
    · rw [hn]; exact c3
    all_goals unfold MayRun at *; rw [hp]; assumption
  refine ⟨hinv, fun k hk => ?_, fun k hk => ?_⟩
  · rw [List.length_set] at hk
    rw [getD_set l y hi]
    by_cases e : k = i
    · subst e; rw [if_pos rfl]; exact hcong _ _ hc
    · rw [if_neg e]; exact hcong _ _ (h.cp k hk)
  · rw [List.length_set] at hk
    rw [getD_set l y hi]
    by_cases e : k = i
    · rw [if_pos e]; exact hv
    · rw [if_neg e]; exact h.val k hk
theorem startJ_good {js : List Jb} {l : List St} (h : Good js l) (i badge now : Int) : Good js (startJ l i badge now).2 := by
  unfold startJ
  split
  · exact h
  rename_i c1
  split
  · exact h
  rename_i c2
  split
  · exact h
  rename_i c3
  have hi : i.toNat < l.length := by omega
  have c3' : stA l i.toNat = 3 := by simpa using c3
  have hcp := (h.cp _ hi)
  obtain ⟨r1, r2, r3, r4, r5⟩ := hcp.r3 c3'
  have hv := h.val _ hi
  refine h.turn2 hi _ (by rw [c3']; simp [endS]) (by simp [endS]) (startJ_ok h.inv hi c3' _ _) ⟨hcp.pm, by simp only; omega, fun h => by simp at h, fun h => by simp at h, fun _ => ⟨r1, by simp only; have := hv.1; omega, by simp only; omega, rfl⟩, fun h => by simp at h, fun h => by simp at h, fun h => by simp at h, fun h => by simp at h⟩ ⟨by simp only; have := hv.1; omega, by simp only; omega, by simp only; omega, by simp⟩
theorem endsJ_good {js : List Jb} {l : List St} (wf : WfJ js) (h : Good js l) (i badge : Int) (s : Nat) (num : Int) (hs : (s = 5 ∨ s = 8 ∨ s = 11 ∨ s = 7) ∧ num = 0 ∨ s = 6 ∧ 1 ≤ num ∧ num ≤ 999) : Good js (endsJ js l i badge s num).2 := by
  unfold endsJ
  split
  · exact h
  rename_i c1
  split
  · exact h
  rename_i c2
  have hi : i.toNat < l.length := by omega
  simp only [not_or, Decidable.not_not] at c2
  have hcp := (h.cp _ hi)
  obtain ⟨r1, r2, r3, r4⟩ := hcp.r4 c2.1
  have hv := h.val _ hi
  have htr := (h.inv.tr _ hi).1
  have hpass := h.inv.pass i.toNat hi (by omega) (by omega)
  have hbd := c2.2
  by_cases c3 : (s = 6 ∨ s = 7) ∧ (l.getD i.toNat St.no).tried < (js.getD i.toNat Jb.no).tries
  · simp only [if_pos c3]
    exact h.turn wf hi _ (by rw [c2.1]; rfl) (by simp) ⟨htr, fun _ => c3.2⟩ (fun _ _ => hpass) ⟨hcp.pm, hcp.tt, fun h => by simp at h, fun _ => ⟨r1, c3.2, rfl, rfl, rfl⟩, fun h => by simp at h, fun h => by simp at h, fun h => by simp at h, fun h => by simp at h, fun h => by simp at h⟩ ⟨hv.1, by simp, by simp, by simp⟩
  · simp only [if_neg c3]
    refine h.turn wf hi _ (by rw [c2.1]; rfl) (by simp only; omega) ⟨htr, fun h => by simp only at h; omega⟩ (fun _ _ => hpass) ⟨hcp.pm, hcp.tt, fun h => by simp only at h; omega, fun h => by simp only at h; omega, fun h => by simp only at h; omega, fun h => ?_, fun h => ?_, fun h => ?_, fun h => by simp only at h; omega⟩ ⟨hv.1, by simp only; rw [← hbd]; exact hv.2.1, by simp, by simp only; omega⟩
    · simp only at h ⊢
      exact ⟨r1, r2, by rw [← hbd]; exact r3, trivial, by omega⟩
    · simp only at h ⊢
      exact ⟨r1, r2, by rw [← hbd]; exact r3, trivial, by have := hcp.tt; omega, by omega⟩
    · simp only at h ⊢
      exact ⟨r1, r2, by rw [← hbd]; exact r3, trivial, by have := hcp.tt; omega, by omega⟩
theorem cancelJ_good {js : List Jb} {l : List St} (wf : WfJ js) (h : Good js l) (i : Int) : Good js (cancelJ js l i).2 := by
  unfold cancelJ
  split
  · exact h
  split
  · exact h
  rename_i c1 c2
  have hi : i.toNat < l.length := by omega
  have hcp := (h.cp _ hi)
  have hv := h.val _ hi
  have hst := h.inv.st _ hi
  have c2' : endS (stA l i.toNat) = false := by simpa using c2
  have key : ((l.getD i.toNat St.no).tried = 0 ∧ (l.getD i.toNat St.no).played = false) ∨ MayRun (js.getD i.toNat Jb.no) l (l.getD i.toNat St.no) := by
    have h4 : (l.getD i.toNat St.no).s = 1 ∨ (l.getD i.toNat St.no).s = 2 ∨ (l.getD i.toNat St.no).s = 3 ∨ (l.getD i.toNat St.no).s = 4 := by
      have h5 : ¬ (5 ≤ stA l i.toNat ∧ stA l i.toNat ≤ 11) := by
        intro hh; simp only [endS, hh.1, hh.2] at c2'; simp at c2'
      unfold stA at h5 hst; omega
    rcases h4 with h4 | h4 | h4 | h4
    · have := hcp.w (.inl h4); exact .inl ⟨by rw [this], by rw [this]⟩
    · have := hcp.w (.inr (.inl h4)); exact .inl ⟨by rw [this], by rw [this]⟩
    · exact .inr (hcp.r3 h4).1
    · exact .inr (hcp.r4 h4).1
  refine h.turn wf hi ⟨9, (l.getD i.toNat St.no).tried, 0, 0, 0, (l.getD i.toNat St.no).played⟩ c2' ⟨by simp, by simp⟩ ⟨(h.inv.tr _ hi).1, fun g => by simp at g⟩ (fun _ g => by simp at g) ⟨hcp.pm, hcp.tt, fun h => by simp at h, fun h => by simp at h, fun h => by simp at h, fun h => by simp at h, fun h => by simp at h, fun h => by simp at h, fun _ => ⟨rfl, rfl, rfl, key.imp id (fun g => g.1), key.imp (fun g => g.1) id⟩⟩ ⟨hv.1, by simp, by simp, by simp⟩
/-- what Play comes to -/
theorem playJ_eq {js : List Jb} {l : List St} (wf : WfJ js) (h : Inv js l) {i : Nat} (hi : i < l.length) (h2 : stA l i = 2) :
    playJ js l (i : Int) = (0, l.set i ⟨3, (l.getD i St.no).tried, (l.getD i St.no).badge, (l.getD i St.no).since, (l.getD i St.no).code, true⟩) := by
  have hpass := h.pass i hi (by omega) (by omega)
  unfold playJ
  rw [if_neg (by omega), Int.toNat_natCast, if_neg (by omega)]
  generalize hw : (⟨1, (l.getD i St.no).tried, (l.getD i St.no).badge, (l.getD i St.no).since, (l.getD i St.no).code, true⟩ : St) = w
  generalize hq : (⟨3, (l.getD i St.no).tried, (l.getD i St.no).badge, (l.getD i St.no).since, (l.getD i St.no).code, true⟩ : St) = q
  have hw1 : w.s = 1 := by rw [← hw]
  have hwp : w.played = true := by rw [← hw]
  have hwq : w.to 3 = q := by rw [← hw, ← hq]; rfl
  have hq3 : q.s = 3 := by rw [← hq]
  have key : ∀ n, setN js n (l.set i w) = if n ≤ i then l.set i w else l.set i q := by
    intro n
    induction n with
    | zero => simp [setN]
    | succ n ih =>
      simp only [setN]
      rw [ih]
      rcases Nat.lt_trichotomy n i with hn | hn | hn
      · rw [if_pos (by omega), if_pos (by omega)]
        have hg : (l.set i w).getD n St.no = l.getD n St.no := by rw [getD_set l w hi, if_neg (by omega)]
        unfold set1
        split
        · rename_i hs
          have hs1 : stA l n = 1 := by unfold stA at hs ⊢; rw [hg] at hs; exact hs
          have hset := h.set n (by omega) hs1
          have hc : nextA (js.getD n Jb.no) (l.set i w) (l.getD n St.no).played = nextA (js.getD n Jb.no) l (l.getD n St.no).played :=
            nextA_congr _ fun m hm => by unfold stA; rw [getD_set l w hi, if_neg (by have := wf n m hm; omega)]
          unfold setS
          rw [hg, hc, hset]
          have hself : (l.getD n St.no).to 1 = l.getD n St.no := by
            unfold stA at hs1
            generalize l.getD n St.no = x at hs1
            obtain ⟨a, b, c, d, e, f⟩ := x
            simp only at hs1; subst hs1; rfl
          rw [hself]
          apply List.ext_getElem?
          intro j
          rw [List.getElem?_set]
          by_cases hj : n = j
          · subst hj
            rw [if_pos rfl, if_pos (by simp; omega), List.getElem?_set, if_neg (by omega), List.getElem?_eq_getElem (by omega), getD_at l St.no (by omega)]
          · rw [if_neg hj]
        · rfl
      · subst hn
        rw [if_pos (Nat.le_refl _), if_neg (by omega)]
        have hg : (l.set n w).getD n St.no = w := by rw [getD_set l w hi, if_pos rfl]
        unfold set1
        rw [if_pos (by unfold stA; rw [hg]; exact hw1)]
        unfold setS
        rw [hg, hwp]
        have hc : nextA (js.getD n Jb.no) (l.set n w) true = 3 := by
          refine nextA_pass ?_
          rw [passA_congr (m := l) fun m hm => by unfold stA; rw [getD_set l w hi, if_neg (by have := wf n m hm; omega)]]
          exact hpass
        rw [hc, hwq, List.set_set]
      · rw [if_neg (by omega), if_neg (by omega)]
        obtain ⟨hp, hb⟩ := same_tests hi q (by rw [h2]; simp [endS]) (by rw [hq3]; simp [endS])
        have hg : (l.set i q).getD n St.no = l.getD n St.no := by rw [getD_set l q hi, if_neg (by omega)]
        unfold set1
        split
        · rename_i hs
          have hs1 : stA l n = 1 := by unfold stA at hs ⊢; rw [hg] at hs; exact hs
          rcases Nat.lt_or_ge n l.length with hnl | hnl
          · have hset := h.set n hnl hs1
            have hc : nextA (js.getD n Jb.no) (l.set i q) (l.getD n St.no).played = nextA (js.getD n Jb.no) l (l.getD n St.no).played := by unfold nextA; rw [hp, hb]
            unfold setS
            rw [hg, hc, hset]
            have hself : (l.getD n St.no).to 1 = l.getD n St.no := by
              unfold stA at hs1
              generalize l.getD n St.no = x at hs1
              obtain ⟨a, b, c, d, e, f⟩ := x
              simp only at hs1; subst hs1; rfl
            rw [hself]
            apply List.ext_getElem?
            intro j
            rw [List.getElem?_set]
            by_cases hj : n = j
            · subst hj
              rw [if_pos rfl, if_pos (by simpa using hnl), List.getElem?_set, if_neg (by omega), List.getElem?_eq_getElem hnl, getD_at l St.no hnl]
            · rw [if_neg hj]
          · unfold setS
            rw [List.set_eq_of_length_le (by simpa using hnl)]
        · rfl
  unfold settle
  rw [key, List.length_set, if_neg (by omega)]
theorem playJ_good {js : List Jb} {l : List St} (wf : WfJ js) (h : Good js l) (i : Int) : Good js (playJ js l i).2 := by
  by_cases c1 : i < 0 ∨ (l.length : Int) ≤ i
  · unfold playJ; rw [if_pos c1]; exact h
  · obtain ⟨n, rfl⟩ : ∃ n : Nat, i = (n : Int) := ⟨i.toNat, by omega⟩
    have hn : n < l.length := by omega
    by_cases c2 : stA l n = 2
    · have hkept := (playJ_kept wf h.inv (n : Int) 0).inv
      rw [playJ_eq wf h.inv hn c2] at hkept ⊢
      have hcp := h.cp n hn
      have hw := hcp.w (.inr (.inl c2))
      have hv := h.val n hn
      have hpass := h.inv.pass n hn (by omega) (by omega)
      have htr := (h.inv.tr n hn).2 (by omega)
      have hm : (js.getD n Jb.no).manual = true := by
        have g : nextA (js.getD n Jb.no) l false = 2 := by
          have : (l.getD n St.no).s = nextA (js.getD n Jb.no) l false := by conv => lhs; rw [hw]
          unfold stA at c2; omega
        unfold nextA at g
        rw [brokA_of_pass hpass, hpass] at g
        cases hmm : (js.getD n Jb.no).manual with
        | true => rfl
        | false => rw [hmm] at g; simp at g
      refine h.turn2 hn _ (by rw [c2]; simp [endS]) (by simp [endS]) hkept ⟨fun _ => hm, hcp.tt, fun h => by simp at h, fun _ => ⟨⟨hpass, .inr rfl⟩, htr, by simp only; rw [hw], by simp only; rw [hw], by simp only; rw [hw]⟩, fun h => by simp at h, fun h => by simp at h, fun h => by simp at h, fun h => by simp at h, fun h => by simp at h⟩ hv
    · unfold playJ
      rw [if_neg c1, Int.toNat_natCast, if_pos c2]; exact h
theorem endJ_good {js : List Jb} {l : List St} (wf : WfJ js) (h : Good js l) (i badge num : Int) : Good js (endJ js l i badge num).2 := by
  unfold endJ
  split
  · exact h
  split
  · exact h
  split
  · exact endsJ_good wf h _ _ _ _ (.inl ⟨.inl rfl, rfl⟩)
  · exact endsJ_good wf h _ _ _ _ (.inr ⟨rfl, by omega, by omega⟩)
/-! own bytes -/
theorem cntO_enc {most : Int} {u : Nat} (r : List UInt8) (h1 : (u : Int) ≤ most) (h2 : u ≤ 2147483647) : cntO most (some (enc u ++ r)) = (u, some r) := by
  have hn := num_some (s := enc u ++ r) (u := u) ⟨by omega, ⟨r, rfl⟩⟩
  have hg := grps_pos u
  have hw : wth (enc u ++ r) most = (u, grps u) := by unfold wth; rw [hn, if_neg (by omega)]
  simp only [cntO, hw]
  rw [if_neg (by omega), ← enc_length, List.drop_left]
theorem read_own : ∀ (l : List St) (r : List UInt8), (∀ x ∈ l, x.s ≤ 255 ∧ x.tried ≤ 2147483647 ∧ ValR x) → readJ 255 2147483647 l.length (some (l.flatMap stB ++ r)) = (some r, l) := by
  intro l
  induction l with
  | nil => intro r _; rfl
  | cons x l ih =>
    intro r h
    obtain ⟨h0, h1, h2, h3, h4, h5⟩ := h x (List.mem_cons_self ..)
    have hb : [if x.played then (1 : UInt8) else 0] = enc (if x.played then 1 else 0) := by cases x.played <;> simp [enc_small]
    have e : (x :: l).flatMap stB ++ r = enc x.s ++ (enc x.tried.toNat ++ (enc x.badge.toNat ++ (enc x.since.toNat ++ (enc x.code.toNat ++ (enc (if x.played then 1 else 0) ++ (l.flatMap stB ++ r)))))) := by
      rw [List.flatMap_cons, stB, hb]; simp only [List.append_assoc]
    rw [e]
    simp only [List.length_cons, readJ]
    rw [cntO_enc _ (by omega) (by omega)]
    simp only
    rw [cntO_enc _ (by omega) (by omega)]
    simp only
    rw [cntO_enc _ (by omega) (by omega)]
    simp only
    rw [cntO_enc _ (by omega) (by omega)]
    simp only
    rw [cntO_enc _ (by omega) (by omega)]
    simp only
    rw [cntO_enc _ (by cases x.played <;> simp) (by cases x.played <;> simp)]
    simp only
    rw [ih r fun y hy => h y (List.mem_cons_of_mem _ hy)]
    have hx : (⟨x.s, (x.tried.toNat : Int), (x.badge.toNat : Int), (x.since.toNat : Int), (x.code.toNat : Int), (if x.played then 1 else 0) == 1⟩ : St) = x := by
      obtain ⟨a, b, c, d, e, f⟩ := x
      simp only [ValR] at h2 h3 h4 h5
      simp only [St.mk.injEq, true_and]
      refine ⟨by omega, by omega, by omega, by omega, by cases f <;> rfl⟩
    rw [hx]
theorem Good.own {js : List Jb} {l : List St} (h : Good js l) (ht : ∀ k, k < js.length → (js.getD k Jb.no).tries ≤ 5) : IsJs js (l.flatMap stB) l ∧ ∀ x ∈ l, ValOk x := by
  have hl := h.inv.len
  have hv : ∀ x ∈ l, x.s ≤ 11 ∧ x.tried ≤ 5 ∧ ValR x := by
    intro x hx
    obtain ⟨k, hk, rfl⟩ := List.mem_iff_getElem.1 hx
    rw [getD_at l St.no hk]
    have h1 := (h.inv.st k hk).2
    have h2 := (h.inv.tr k hk).1
    have h3 := ht k (by omega)
    exact ⟨h1, by omega, h.val k hk⟩
  refine ⟨⟨?_, fun k hk => (h.cp k (by omega)).could (h.inv.st k (by omega))⟩, fun x hx => ?_⟩
  · have := read_own l [] fun x hx => by have := hv x hx; exact ⟨by omega, by omega, this.2.2⟩
    rw [List.append_nil, hl] at this
    exact this
  · obtain ⟨a, b, c1, c2, c3, c4⟩ := hv x hx
    exact ⟨by omega, by omega, by omega, by omega, by omega⟩
end Go.Proofs.Ytklhioaokogpdaa
