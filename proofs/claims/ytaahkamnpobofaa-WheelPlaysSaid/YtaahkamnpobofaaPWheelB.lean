/- Wheels in plain Lean: what is due, in order; no condition. -/
import Derived.Test.YtaahkamnpobofaaPWheel
namespace Go.Proofs.Ytaahkamnpobofaa
/-- what lies under a key -/
def lk (q : Int) : List (Int × Int) → Option Int
  | [] => none
  | p :: ms => if p.1 = q then some p.2 else lk q ms
def pu (q n : Int) : List (Int × Int) → List (Int × Int)
  | [] => [(q, n)]
  | p :: ms => if p.1 = q then (q, n) :: ms else p :: pu q n ms
def de (q : Int) : List (Int × Int) → List (Int × Int)
  | [] => []
  | p :: ms => if p.1 = q then ms else p :: de q ms
def KeysNd (M : List (Int × Int)) : Prop := M.Pairwise fun a b => a.1 ≠ b.1
theorem lk_pu (q r n : Int) (M : List (Int × Int)) : lk r (pu q n M) = if r = q then some n else lk r M := by
  induction M with
  | nil => by_cases h : r = q <;> simp [pu, lk, h]; exact fun e => absurd e.symm h
  | cons p ms ih =>
    by_cases h1 : p.1 = q
    · by_cases h2 : r = q
      · simp [pu, lk, h1, h2]
      · have h3 : ¬ q = r := fun e => h2 e.symm
        simp [pu, lk, h1, h2, h3]
    · simp only [pu, if_neg h1, lk, ih]
      by_cases h2 : p.1 = r
      · have h3 : ¬ r = q := fun e => h1 (h2.trans e)
        simp [h2, h3]
      · simp [h2]
theorem lk_none {q : Int} {M : List (Int × Int)} : lk q M = none ↔ ∀ p ∈ M, p.1 ≠ q := by
  induction M with
  | nil => simp [lk]
  | cons p ms ih =>
    by_cases h : p.1 = q
    · simp [lk, h]
    · simp [lk, h, ih]
theorem lk_de {M : List (Int × Int)} (hn : KeysNd M) (q r : Int) : lk r (de q M) = if r = q then none else lk r M := by
  induction M with
  | nil => simp [de, lk]
  | cons p ms ih =>
    obtain ⟨h1, h2⟩ := List.pairwise_cons.1 hn
    by_cases hp : p.1 = q
    · simp only [de, if_pos hp]
      by_cases hr : r = q
      · rw [if_pos hr, lk_none]
        intro x hx e
        exact h1 x hx (by rw [hp, e, hr])
      · have : ¬ p.1 = r := fun e => hr (by rw [← e, hp])
        simp [lk, this, hr]
    · simp only [de, if_neg hp, lk, ih h2]
      by_cases hr : r = q
      · have : ¬ p.1 = r := fun e => hp (e.trans hr)
        simp [hr]
        intro e; exact absurd e (by rw [← hr]; exact this)
      · simp [hr]
theorem pu_len (q n : Int) (M : List (Int × Int)) : (pu q n M).length = if (lk q M).isSome then M.length else M.length + 1 := by
  induction M with
  | nil => simp [pu, lk]
  | cons p ms ih =>
    by_cases h : p.1 = q
    · simp [pu, lk, h]
    · simp only [pu, lk, if_neg h, List.length_cons, ih]
      split <;> rfl
theorem de_len {q n : Int} {M : List (Int × Int)} (h : lk q M = some n) : (de q M).length + 1 = M.length := by
  induction M with
  | nil => simp [lk] at h
  | cons p ms ih =>
    by_cases hp : p.1 = q
    · simp [de, hp]
    · simp only [lk, if_neg hp] at h
      simp only [de, if_neg hp, List.length_cons, ih h]
theorem de_sub {q : Int} {M : List (Int × Int)} : (de q M).Sublist M := by
  induction M with
  | nil => exact List.Sublist.refl _
  | cons p ms ih =>
    by_cases hp : p.1 = q
    · simp only [de, if_pos hp]; exact List.sublist_cons_self _ _
    · simp only [de, if_neg hp]; exact ih.cons_cons _
theorem KeysNd.de {q : Int} {M : List (Int × Int)} (h : KeysNd M) : KeysNd (de q M) := List.Pairwise.sublist de_sub h
theorem pu_keys (q n : Int) (M : List (Int × Int)) : ∀ p ∈ pu q n M, p.1 = q ∨ ∃ r ∈ M, r.1 = p.1 := by
  induction M with
  | nil => simp [pu]
  | cons p ms ih =>
    intro x hx
    by_cases hp : p.1 = q
    · simp only [pu, if_pos hp, List.mem_cons] at hx
      rcases hx with rfl | hx
      · exact .inl rfl
      · exact .inr ⟨x, by simp [hx], rfl⟩
    · simp only [pu, if_neg hp, List.mem_cons] at hx
      rcases hx with rfl | hx
      · exact .inr ⟨x, by simp, rfl⟩
      · rcases ih x hx with e | ⟨r, h1, h2⟩
        · exact .inl e
        · exact .inr ⟨r, by simp [h1], h2⟩
theorem KeysNd.pu {q n : Int} {M : List (Int × Int)} (h : KeysNd M) : KeysNd (pu q n M) := by
  induction M with
  | nil => exact List.pairwise_singleton _ _
  | cons p ms ih =>
    obtain ⟨h1, h2⟩ := List.pairwise_cons.1 h
    by_cases hp : p.1 = q
    · simp only [Go.Proofs.Ytaahkamnpobofaa.pu, if_pos hp]
      exact List.pairwise_cons.2 ⟨fun x hx => by rw [← hp]; exact h1 x hx, h2⟩
    · simp only [Go.Proofs.Ytaahkamnpobofaa.pu, if_neg hp]
      refine List.pairwise_cons.2 ⟨fun x hx => ?_, ih h2⟩
      rcases pu_keys q n ms x hx with e | ⟨r, h3, h4⟩
      · rw [e]; exact hp
      · rw [← h4]; exact h1 r h3
/-- put in its place -/
def ins (x : Th) : List Th → List Th
  | [] => [x]
  | y :: L => if Th.lt y x then y :: ins x L else x :: y :: L
def rem (q : Int) (L : List Th) : List Th := L.filter fun t => !decide (t.key = q)
def setL (q n : Int) (L : List Th) : List Th := ins ⟨n, q⟩ (rem q L)
theorem ins_perm (x : Th) (L : List Th) : (ins x L).Perm (x :: L) := by
  induction L with
  | nil => exact List.Perm.refl _
  | cons y L ih =>
    by_cases h : Th.lt y x
    · simp only [ins, if_pos h]
      exact (List.Perm.cons y ih).trans (List.Perm.swap x y L)
    · simp only [ins, if_neg h]; exact List.Perm.refl _
theorem ins_mem {x t : Th} {L : List Th} : t ∈ ins x L ↔ t = x ∨ t ∈ L := by rw [(ins_perm x L).mem_iff]; simp
theorem ins_sorted {x : Th} {L : List Th} (h : L.Pairwise Th.lt) (hx : ∀ t ∈ L, t ≠ x) : (ins x L).Pairwise Th.lt := by
  induction L with
  | nil => exact List.pairwise_singleton _ _
  | cons y L ih =>
    obtain ⟨h1, h2⟩ := List.pairwise_cons.1 h
    by_cases hl : Th.lt y x
    · simp only [ins, if_pos hl]
      refine List.pairwise_cons.2 ⟨fun t ht => ?_, ih h2 fun t ht => hx t (by simp [ht])⟩
      rcases ins_mem.1 ht with rfl | ht
      · exact hl
      · exact h1 t ht
    · simp only [ins, if_neg hl]
      have hxy : Th.lt x y := by
        rcases Th.tri x y with e | e | e
        · exact e
        · exact absurd e.symm (hx y (by simp))
        · exact absurd e hl
      refine List.pairwise_cons.2 ⟨fun t ht => ?_, h⟩
      rcases List.mem_cons.1 ht with rfl | ht
      · exact hxy
      · exact Th.lt_trans hxy (h1 t ht)
theorem rem_mem {q : Int} {t : Th} {L : List Th} : t ∈ rem q L ↔ t ∈ L ∧ t.key ≠ q := by simp [rem]
theorem rem_sorted {q : Int} {L : List Th} (h : L.Pairwise Th.lt) : (rem q L).Pairwise Th.lt := h.filter _
theorem sorted_ext : ∀ {L T : List Th}, L.Pairwise Th.lt → T.Pairwise Th.lt → (∀ t, t ∈ L ↔ t ∈ T) → L = T := by
  intro L
  induction L with
  | nil =>
    intro T _ _ h
    cases T with
    | nil => rfl
    | cons y T => exact absurd ((h y).2 (by simp)) (by simp)
  | cons x L ih =>
    intro T h1 h2 h
    cases T with
    | nil => exact absurd ((h x).1 (by simp)) (by simp)
    | cons y T =>
      obtain ⟨a1, a2⟩ := List.pairwise_cons.1 h1
      obtain ⟨b1, b2⟩ := List.pairwise_cons.1 h2
      have exy : x = y := by
        rcases List.mem_cons.1 ((h x).1 (by simp)) with e | e
        · exact e
        · rcases List.mem_cons.1 ((h y).2 (by simp)) with e' | e'
          · exact e'.symm
          · exact absurd (b1 x e) (Th.asymm (a1 y e'))
      subst exy
      refine congrArg (x :: ·) (ih a2 b2 fun t => ⟨fun ht => ?_, fun ht => ?_⟩)
      · rcases List.mem_cons.1 ((h t).1 (by simp [ht])) with e | e
        · subst e; exact absurd (a1 t ht) (Th.lt_irrefl t)
        · exact e
      · rcases List.mem_cons.1 ((h t).2 (by simp [ht])) with e | e
        · subst e; exact absurd (b1 t ht) (Th.lt_irrefl t)
        · exact e
/-- what a wheel is: its heap, its map, and the things that count, in order -/
structure WOk (H : List Th) (M : List (Int × Int)) (L : List Th) : Prop where
  heap : HeapOk H
  has : ∀ t ∈ L, t ∈ H
  srt : L.Pairwise Th.lt
  map : ∀ q n, lk q M = some n ↔ (⟨n, q⟩ : Th) ∈ L
  nd : KeysNd M
  len : M.length = L.length
theorem WOk.nil : WOk [] [] [] := ⟨HeapOk.nil, by simp, .nil, by simp [lk], .nil, rfl⟩
section
variable {H H' : List Th} {M : List (Int × Int)} {L : List Th}
theorem WOk.one (w : WOk H M L) {s t : Th} (hs : s ∈ L) (ht : t ∈ L) (e : s.key = t.key) : s = t := by
  have h1 := (w.map s.key s.due).2 hs
  have h2 := (w.map t.key t.due).2 ht
  rw [e, h2] at h1
  cases s; cases t; simp_all
theorem WOk.head (w : WOk H M L) (h0 : 0 < H.length) (hc : lk (nth H 0).key M = some (nth H 0).due) : ∃ T, L = nth H 0 :: T := by
  have hx : nth H 0 ∈ L := (w.map _ _).1 hc
  cases L with
  | nil => simp at hx
  | cons y T =>
    have hy := w.heap.least' (w.has y (by simp))
    rcases List.mem_cons.1 hx with e | e
    · exact ⟨T, by rw [e]⟩
    · exact absurd ((List.pairwise_cons.1 w.srt).1 _ e) hy
theorem WOk.skip (w : WOk H M L) (hc : lk (nth H 0).key M ≠ some (nth H 0).due) (p : (nth H 0 :: H').Perm H) (hh : HeapOk H') : WOk H' M L := by
  refine ⟨hh, fun t ht => ?_, w.srt, w.map, w.nd, w.len⟩
  rcases List.mem_cons.1 (p.mem_iff.2 (w.has t ht)) with e | e
  · subst e; exact absurd ((w.map _ _).2 ht) hc
  · exact e
theorem WOk.none (w : WOk H M L) (h0 : H.length = 0) : L = [] := by
  have : H = [] := List.eq_nil_of_length_eq_zero h0
  subst this
  cases L with
  | nil => rfl
  | cons y T => exact absurd (w.has y (by simp)) (by simp)
theorem WOk.heapd (w : WOk H M L) (hh : HeapOk H') (hs : ∀ t ∈ L, t ∈ H') : WOk H' M L := ⟨hh, hs, w.srt, w.map, w.nd, w.len⟩
theorem WOk.clear (w : WOk H M L) {q n : Int} (hq : lk q M = some n) : WOk H (de q M) (rem q L) := by
  refine ⟨w.heap, fun t ht => w.has t (rem_mem.1 ht).1, rem_sorted w.srt, fun r m => ?_, w.nd.de, ?_⟩
  · rw [lk_de w.nd, rem_mem]
    by_cases h : r = q
    · simp [h]
    · simp [h, w.map]
  · have h1 := de_len hq
    have h2 := w.len
    have h3 : L.length = (rem q L).length + (L.filter fun t => decide (t.key = q)).length := by
      clear h1 h2 hq w
      induction L with
      | nil => rfl
      | cons x L ih => by_cases h : x.key = q <;> simp [rem, h] at ih ⊢ <;> omega
    have h4 : (L.filter fun t => decide (t.key = q)).length = 1 := by
      have hm : (⟨n, q⟩ : Th) ∈ L := (w.map q n).1 hq
      have hall : ∀ t ∈ L.filter (fun t => decide (t.key = q)), t = ⟨n, q⟩ := fun t ht => by
        have := List.mem_filter.1 ht
        exact w.one this.1 hm (by simpa using this.2)
      have hsr : (L.filter fun t => decide (t.key = q)).Pairwise Th.lt := w.srt.filter _
      have hmem : (⟨n, q⟩ : Th) ∈ L.filter fun t => decide (t.key = q) := List.mem_filter.2 ⟨hm, by simp⟩
      generalize L.filter (fun t => decide (t.key = q)) = F at hall hsr hmem
      match F, hall, hsr, hmem with
      | [x], _, _, _ => rfl
      | x :: y :: F, hall, hsr, _ =>
        have h1 := hall x (by simp)
        have h2 := hall y (by simp)
        have := (List.pairwise_cons.1 hsr).1 y (by simp)
        rw [h1, h2] at this
        exact absurd this (Th.lt_irrefl _)
    omega
theorem WOk.rem_none (w : WOk H M L) {q : Int} (hq : lk q M = .none) : rem q L = L := by
  unfold rem
  rw [List.filter_eq_self]
  intro t ht
  have : t.key ≠ q := fun e => by
    have := (w.map t.key t.due).2 ht
    rw [e, hq] at this
    cases this
  simpa using this
theorem WOk.take {x : Th} {T : List Th} (w : WOk H M (x :: T)) (hx : nth H 0 = x) (p : (nth H 0 :: H').Perm H) (hh : HeapOk H') : WOk H' (de x.key M) T := by
  have hq : lk x.key M = some x.due := (w.map _ _).2 (by simp)
  have hc := w.clear hq
  have ht : rem x.key (x :: T) = T := by
    unfold rem
    rw [List.filter_cons_of_neg (by simp), List.filter_eq_self]
    intro t ht
    have : t.key ≠ x.key := fun e => by
      have := w.one (s := t) (t := x) (by simp [ht]) (by simp) e
      subst this
      exact Th.lt_irrefl t ((List.pairwise_cons.1 w.srt).1 t ht)
    simpa using this
  rw [ht] at hc
  refine hc.heapd hh fun t ht2 => ?_
  rcases List.mem_cons.1 (p.mem_iff.2 (w.has t (by simp [ht2]))) with e | e
  · rw [hx] at e; subst e
    exact absurd ((List.pairwise_cons.1 w.srt).1 t ht2) (Th.lt_irrefl t)
  · exact e
theorem WOk.set (w : WOk H M L) (q n : Int) (hh : HeapOk H') (hp : ∀ t, t ∈ H ∨ t = ⟨n, q⟩ → t ∈ H') : WOk H' (pu q n M) (setL q n L) := by
  refine ⟨hh, fun t ht => ?_, ins_sorted (rem_sorted w.srt) (fun t ht e => (rem_mem.1 ht).2 (by rw [e])), fun r m => ?_, w.nd.pu, ?_⟩
  · rcases ins_mem.1 ht with e | e
    · exact hp t (.inr e)
    · exact hp t (.inl (w.has t (rem_mem.1 e).1))
  · rw [lk_pu, setL, ins_mem, rem_mem]
    by_cases h : r = q
    · subst h; simp; exact eq_comm
    · have : ¬ (⟨m, r⟩ : Th) = ⟨n, q⟩ := fun e => h (congrArg Th.key e)
      simp [h, this, w.map]
  · rw [pu_len, setL, (ins_perm _ _).length_eq, List.length_cons]
    cases hq : lk q M with
    | none => simp [w.rem_none hq, w.len]
    | some m =>
      have h1 := (w.clear hq).len
      have h2 := de_len hq
      simp; omega
theorem WOk.set_same (w : WOk H M L) {q n : Int} (hq : lk q M = some n) : setL q n L = L := by
  have hm := (w.map q n).1 hq
  refine sorted_ext (ins_sorted (rem_sorted w.srt) (fun t ht e => (rem_mem.1 ht).2 (by rw [e]))) w.srt fun t => ?_
  rw [setL, ins_mem, rem_mem]
  constructor
  · rintro (rfl | h)
    · exact hm
    · exact h.1
  · intro h
    by_cases e : t.key = q
    · exact .inl (w.one h hm e)
    · exact .inr ⟨h, e⟩
end
end Go.Proofs.Ytaahkamnpobofaa
