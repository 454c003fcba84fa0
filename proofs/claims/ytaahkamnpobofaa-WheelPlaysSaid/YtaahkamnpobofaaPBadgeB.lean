/- Desks of badges as maps from numbers to holders; no condition. -/
import Derived.Test.YtaahkamnpobofaaPBadge
import Derived.Test.YtaahkamnpobofaaMaps
namespace Go.Proofs.Ytaahkamnpobofaa
open Go.Ab
def Bd.agg (x : Bd) : Value := .agg #[.int .i64 x.pipe, .int .i64 x.job, .int .i64 x.runner, .int .i64 x.heard]
def cellB (x : Bd) : Int × Value := (x.no, x.agg)
theorem lkp_desk (L : List Bd) (q : Int) : lkp q (L.map cellB) = (atL L q).map Bd.agg := by
  induction L with
  | nil => rfl
  | cons x L ih =>
    simp only [List.map_cons, lkp, cellB, atL, List.find?_cons]
    by_cases h : x.no = q
    · simp [h]
    · simp only [h, if_false, decide_false]
      exact ih
theorem putM_new (q : Int) (v : Value) : ∀ (ms : List (Int × Value)), lkp q ms = none → putM q v ms = ms ++ [(q, v)] := by
  intro ms
  induction ms with
  | nil => intro _; rfl
  | cons p ms ih =>
    intro h
    simp only [lkp] at h
    split at h
    · cases h
    · rename_i hn
      simp only [putM, if_neg hn, ih h, List.cons_append]
theorem atL_none {L : List Bd} {q : Int} (h : ∀ x ∈ L, x.no ≠ q) : atL L q = none := by
  rw [atL, List.find?_eq_none]
  intro x hx
  simpa using h x hx
theorem give_map {last : Int} {L : List Bd} (d : DeskOk last L) {x : Bd} {no : Int} (hn : last < no) : putM no x.agg (L.map cellB) = (L ++ [x.as no]).map cellB := by
  rw [putM_new]
  · simp [cellB, Bd.as, Bd.agg]
  · rw [lkp_desk, atL_none]
    · rfl
    · intro y hy e
      have := (d.nos y hy).2
      omega
theorem beat_map (q now : Int) : ∀ (L : List Bd), (L.Pairwise fun x y => x.no < y.no) → ∀ x, atL L q = some x → putM q ({ x with heard := max x.heard now } : Bd).agg (L.map cellB) = (beatL L q now).map cellB := by
  intro L
  induction L with
  | nil => intro _ x h; cases h
  | cons y L ih =>
    intro hp x h
    obtain ⟨h1, h2⟩ := List.pairwise_cons.1 hp
    simp only [atL, List.find?_cons] at h
    by_cases hy : y.no = q
    · simp only [hy, decide_true, Option.some.injEq] at h
      subst h
      have hid : beatL L q now = L := by
        unfold beatL
        conv => rhs; rw [← List.map_id L]
        refine List.map_congr_left fun z hz => ?_
        have := h1 z hz
        rw [if_neg (by omega)]; rfl
      simp only [beatL] at hid
      simp [beatL, putM, cellB, hy, hid]
    · simp only [hy, decide_false] at h
      have := ih h2 x h
      simp only [beatL] at this
      simp only [beatL, List.map_cons, putM, cellB, hy, if_false, List.cons.injEq, true_and]
      exact this
theorem drop_map (q : Int) : ∀ (L : List Bd), (L.Pairwise fun x y => x.no < y.no) → delM q (L.map cellB) = (dropL L q).map cellB := by
  intro L
  induction L with
  | nil => intro _; rfl
  | cons y L ih =>
    intro hp
    obtain ⟨h1, h2⟩ := List.pairwise_cons.1 hp
    by_cases hy : y.no = q
    · have hid : dropL L q = L := by
        unfold dropL
        rw [List.filter_eq_self]
        intro z hz
        have := h1 z hz
        have hne : ¬ z.no = q := by omega
        simp [hne]
      simp only [dropL] at hid
      simp [dropL, delM, cellB, hy, hid]
    · have := ih h2
      simp only [dropL] at this
      simp only [dropL, List.map_cons, delM, cellB, hy, if_false, List.filter_cons, decide_false, Bool.not_false, if_true, List.cons.injEq, true_and]
      exact this
/-- a desk in memory: of the call's own, above the block k -/
structure DeskR (h : Hp) (k d b : Nat) (last : Int) (L : List Bd) : Prop where
  at_ : h[d]? = some (.cells [.int .i64 last, .map (some b)] false none)
  mp : MapAt intK h b (L.map cellB)
  ok : DeskOk last L
  kd : k ≤ d
  kb : k ≤ b
theorem DeskR.ne {h : Hp} {k d b : Nat} {last : Int} {L : List Bd} (r : DeskR h k d b last L) : d ≠ b := by
  rintro rfl
  have h1 := r.at_
  have h2 := r.mp
  unfold MapAt at h2
  rw [h1] at h2
  cases h2
theorem DeskR.upd {h h' : Hp} {k d b : Nat} {last : Int} {L : List Bd} {S : Nat → Prop} (r : DeskR h k d b last L) (u : Upd S h h') (hd : ¬ S d) (hb : ¬ S b) : DeskR h' k d b last L :=
  ⟨u.at r.at_ hd, r.mp.upd u hb, r.ok, r.kd, r.kb⟩
theorem DeskR.same {h h' : Hp} {k d b : Nat} {last : Int} {L : List Bd} (r : DeskR h k d b last L) (u : Same h h') : DeskR h' k d b last L := r.upd u (fun h => h) (fun h => h)
theorem DeskR.lt {h : Hp} {k d b : Nat} {last : Int} {L : List Bd} (r : DeskR h k d b last L) : d < h.length ∧ b < h.length := ⟨hp_lt r.at_, hp_lt r.mp⟩
/-- sorted lists of the same numbers -/
theorem sorted_eq : ∀ (a b : List Int), (a.Pairwise fun x y => x ≤ y) → (b.Pairwise fun x y => x ≤ y) → a.Perm b → a = b := by
  intro a
  induction a with
  | nil => intro b _ _ h; exact h.nil_eq
  | cons x a ih =>
    intro b h1 h2 hp
    cases b with
    | nil => exact absurd hp.length_eq (by simp)
    | cons y b =>
      obtain ⟨p1, p2⟩ := List.pairwise_cons.1 h1
      obtain ⟨q1, q2⟩ := List.pairwise_cons.1 h2
      have hxy : x = y := by
        have m1 : x ∈ y :: b := hp.subset (by simp)
        have m2 : y ∈ x :: a := hp.symm.subset (by simp)
        rcases List.mem_cons.1 m1 with e | e
        · exact e
        · rcases List.mem_cons.1 m2 with f | f
          · exact f.symm
          · have := q1 x e
            have := p1 y f
            omega
      subst hxy
      rw [ih b p2 q2 (List.Perm.cons_inv hp)]
theorem mergeSort_eq {ss ks : List Int} (hp : ss.Perm ks) (hs : ks.Pairwise fun x y => x ≤ y) : ss.mergeSort (fun x y => decide (x ≤ y)) = ks := by
  refine sorted_eq _ _ ?_ hs ((List.mergeSort_perm _ _).trans hp)
  have := List.pairwise_mergeSort (le := fun x y : Int => decide (x ≤ y)) (fun a b c h1 h2 => by simp at h1 h2 ⊢; omega) (fun a b => by simp; omega) ss
  exact this.imp fun h => by simpa using h
end Go.Proofs.Ytaahkamnpobofaa
