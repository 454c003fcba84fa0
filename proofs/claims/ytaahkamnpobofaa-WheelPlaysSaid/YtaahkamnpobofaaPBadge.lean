/- Desks of badges in plain Lean; no condition. -/
namespace Go.Proofs.Ytaahkamnpobofaa
/-- a badge: its number, and what it is for -/
structure Bd where
  no : Int
  pipe : Int
  job : Int
  runner : Int
  heard : Int
  deriving DecidableEq
def Bd.good (x : Bd) : Bool := decide (1 ≤ x.pipe) && decide (x.pipe ≤ 2147483647) && decide (0 ≤ x.job) && decide (x.job ≤ 23) && decide (1 ≤ x.runner) && decide (x.runner ≤ 4) && decide (0 ≤ x.heard) && decide (x.heard ≤ 2147483647)
theorem Bd.good_iff (x : Bd) : x.good = true ↔ (1 ≤ x.pipe ∧ x.pipe ≤ 2147483647) ∧ (0 ≤ x.job ∧ x.job ≤ 23) ∧ (1 ≤ x.runner ∧ x.runner ≤ 4) ∧ (0 ≤ x.heard ∧ x.heard ≤ 2147483647) := by
  simp only [Bd.good, Bool.and_eq_true, decide_eq_true_eq, and_assoc]
def taskB (x y : Bd) : Bool := decide (x.pipe = y.pipe) && decide (x.job = y.job)
/-- does one stand in the way of another? -/
def inWay (x y : Bd) : Bool := taskB x y || decide (x.runner = y.runner)
def busyB (L : List Bd) (x : Bd) : Bool := L.any fun y => inWay y x
theorem inWay_comm (x y : Bd) : inWay x y = inWay y x := by
  simp only [inWay, taskB]
  rw [Bool.eq_iff_iff]
  simp only [Bool.or_eq_true, Bool.and_eq_true, decide_eq_true_eq]
  constructor <;> (rintro (⟨a, b⟩ | a) <;> simp [*])
structure DeskOk (last : Int) (L : List Bd) : Prop where
  l0 : 0 ≤ last
  l1 : last ≤ 2147483647
  rising : L.Pairwise fun x y => x.no < y.no
  nos : ∀ x ∈ L, 1 ≤ x.no ∧ x.no ≤ last
  good : ∀ x ∈ L, x.good = true
  apart : L.Pairwise fun x y => inWay x y = false
theorem DeskOk.nil {last : Int} (h0 : 0 ≤ last) (h1 : last ≤ 2147483647) : DeskOk last [] := ⟨h0, h1, .nil, by simp, by simp, .nil⟩
theorem apart_one (r : Int) : ∀ (L : List Bd), L.Pairwise (fun x y => inWay x y = false) → (L.filter fun x => decide (x.runner = r)).length ≤ 1 := by
  intro L
  induction L with
  | nil => intro _; simp
  | cons x L ih =>
    intro h
    obtain ⟨h1, h2⟩ := List.pairwise_cons.1 h
    by_cases hx : x.runner = r
    · have : L.filter (fun x => decide (x.runner = r)) = [] := by
        rw [List.filter_eq_nil_iff]
        intro y hy
        have := h1 y hy
        simp only [inWay, Bool.or_eq_false_iff, decide_eq_false_iff_not] at this
        simp only [decide_eq_true_eq]
        intro e
        exact this.2 (hx.trans e.symm)
      simp [hx, this]
    · simp only [List.filter_cons, hx, decide_false, Bool.false_eq_true, if_false]
      exact ih h2
theorem four : ∀ (L : List Bd), (∀ x ∈ L, 1 ≤ x.runner ∧ x.runner ≤ 4) → L.length = (L.filter fun x => decide (x.runner = 1)).length + (L.filter fun x => decide (x.runner = 2)).length + (L.filter fun x => decide (x.runner = 3)).length + (L.filter fun x => decide (x.runner = 4)).length := by
  intro L
  induction L with
  | nil => intro _; rfl
  | cons x L ih =>
    intro h
    have h1 := h x (by simp)
    have h2 := ih fun y hy => h y (by simp [hy])
    have h3 : x.runner = 1 ∨ x.runner = 2 ∨ x.runner = 3 ∨ x.runner = 4 := by omega
    simp only [List.filter_cons, List.length_cons]
    rcases h3 with e | e | e | e <;> simp [e] <;> omega
theorem DeskOk.few {last : Int} {L : List Bd} (d : DeskOk last L) : L.length ≤ 4 := by
  have h := four L fun x hx => ((Bd.good_iff x).1 (d.good x hx)).2.2.1
  have h1 := apart_one 1 L d.apart
  have h2 := apart_one 2 L d.apart
  have h3 := apart_one 3 L d.apart
  have h4 := apart_one 4 L d.apart
  omega
def Bd.as (x : Bd) (no : Int) : Bd := { x with no := no }
theorem inWay_as (x y : Bd) (n : Int) : inWay x (y.as n) = inWay x y := rfl
theorem good_as (x : Bd) (n : Int) : (x.as n).good = x.good := rfl
theorem DeskOk.give {last : Int} {L : List Bd} (d : DeskOk last L) {x : Bd} (hg : x.good = true) (hb : busyB L x = false) {no : Int} (hn : last < no) (hm : no ≤ 2147483647) : DeskOk no (L ++ [x.as no]) := by
  have hw : ∀ y ∈ L, inWay y x = false := fun y hy => by
    rw [busyB, List.any_eq_false] at hb
    simpa using hb y hy
  refine ⟨by have := d.l0; omega, hm, ?_, ?_, ?_, ?_⟩
  · rw [List.pairwise_append]
    refine ⟨d.rising, by simp, fun a ha b hb => ?_⟩
    simp only [List.mem_singleton] at hb
    subst hb
    have := (d.nos a ha).2
    simp only [Bd.as]; omega
  · intro y hy
    rcases List.mem_append.1 hy with h | h
    · have := d.nos y h; omega
    · simp only [List.mem_singleton] at h; subst h
      have := d.l0
      simp only [Bd.as]; omega
  · intro y hy
    rcases List.mem_append.1 hy with h | h
    · exact d.good y h
    · simp only [List.mem_singleton] at h; subst h; exact hg
  · rw [List.pairwise_append]
    refine ⟨d.apart, by simp, fun a ha b hb => ?_⟩
    simp only [List.mem_singleton] at hb
    subst hb
    exact hw a ha
theorem DeskOk.add {last : Int} {L : List Bd} (d : DeskOk last L) {x : Bd} (hr : ∀ y ∈ L, y.no < x.no) (h0 : 1 ≤ x.no) (h1 : x.no ≤ last) (hg : x.good = true) (hb : busyB L x = false) : DeskOk last (L ++ [x]) := by
  have hw : ∀ y ∈ L, inWay y x = false := fun y hy => by
    rw [busyB, List.any_eq_false] at hb
    simpa using hb y hy
  refine ⟨d.l0, d.l1, ?_, ?_, ?_, ?_⟩
  · rw [List.pairwise_append]
    refine ⟨d.rising, by simp, fun a ha b hb => ?_⟩
    simp only [List.mem_singleton] at hb
    subst hb
    exact hr a ha
  · intro y hy
    rcases List.mem_append.1 hy with h | h
    · exact d.nos y h
    · simp only [List.mem_singleton] at h; subst h; exact ⟨h0, h1⟩
  · intro y hy
    rcases List.mem_append.1 hy with h | h
    · exact d.good y h
    · simp only [List.mem_singleton] at h; subst h; exact hg
  · rw [List.pairwise_append]
    refine ⟨d.apart, by simp, fun a ha b hb => ?_⟩
    simp only [List.mem_singleton] at hb
    subst hb
    exact hw a ha
/-- heard anew -/
def beatL (L : List Bd) (q now : Int) : List Bd := L.map fun x => if x.no = q then { x with heard := max x.heard now } else x
theorem beat_no (L : List Bd) (q now : Int) (x : Bd) : (if x.no = q then { x with heard := max x.heard now } else x : Bd).no = x.no := by split <;> rfl
theorem pairwise_map' {α : Type} {R : α → α → Prop} {f : α → α} (hf : ∀ x y, R x y → R (f x) (f y)) : ∀ {L : List α}, L.Pairwise R → (L.map f).Pairwise R := fun h => List.pairwise_map.2 (h.imp fun {a b} h => hf a b h)
theorem DeskOk.beat {last : Int} {L : List Bd} (d : DeskOk last L) {q now : Int} (h0 : 0 ≤ now) (h1 : now ≤ 2147483647) : DeskOk last (beatL L q now) := by
  refine ⟨d.l0, d.l1, pairwise_map' (fun x y h => ?_) d.rising, ?_, ?_, pairwise_map' (fun x y h => ?_) d.apart⟩
  · rw [beat_no L, beat_no L]; exact h
  · intro y hy
    obtain ⟨x, hx, rfl⟩ := List.mem_map.1 hy
    rw [beat_no L]; exact d.nos x hx
  · intro y hy
    obtain ⟨x, hx, rfl⟩ := List.mem_map.1 hy
    have := d.good x hx
    rw [Bd.good_iff] at this ⊢
    split
    · simp only; omega
    · exact this
  · have e : ∀ x : Bd, (if x.no = q then { x with heard := max x.heard now } else x : Bd).pipe = x.pipe ∧ (if x.no = q then { x with heard := max x.heard now } else x : Bd).job = x.job ∧ (if x.no = q then { x with heard := max x.heard now } else x : Bd).runner = x.runner := fun x => by split <;> exact ⟨rfl, rfl, rfl⟩
    simp only [inWay, taskB, (e x).1, (e x).2.1, (e x).2.2, (e y).1, (e y).2.1, (e y).2.2]
    exact h
def dropL (L : List Bd) (q : Int) : List Bd := L.filter fun x => !decide (x.no = q)
theorem DeskOk.drop {last : Int} {L : List Bd} (d : DeskOk last L) (q : Int) : DeskOk last (dropL L q) :=
  ⟨d.l0, d.l1, d.rising.filter _, fun x hx => d.nos x ((List.mem_filter.1 hx).1), fun x hx => d.good x ((List.mem_filter.1 hx).1), d.apart.filter _⟩
def lateB (now lease : Int) (x : Bd) : Bool := decide (x.heard ≤ now) && decide (lease ≤ now - x.heard)
def lateL (L : List Bd) (now lease : Int) : List Int := if lease < 1 then [] else (L.filter fun x => lateB now lease x).map (·.no)
def atL (L : List Bd) (q : Int) : Option Bd := L.find? fun x => decide (x.no = q)
def ofL (L : List Bd) (pipe job : Int) : Option Bd := L.find? fun x => decide (x.pipe = pipe) && decide (x.job = job)
theorem atL_mem {L : List Bd} {q : Int} {x : Bd} (h : atL L q = some x) : x ∈ L ∧ x.no = q := by
  have h1 := List.mem_of_find?_eq_some h
  have h2 := List.find?_some h
  exact ⟨h1, by simpa using h2⟩
theorem rising_lt {last : Int} {L : List Bd} (d : DeskOk last L) {i j : Nat} (hij : i < j) (hj : j < L.length) : L[i].no < L[j].no := List.pairwise_iff_getElem.1 d.rising i j (by omega) hj hij
end Go.Proofs.Ytaahkamnpobofaa
