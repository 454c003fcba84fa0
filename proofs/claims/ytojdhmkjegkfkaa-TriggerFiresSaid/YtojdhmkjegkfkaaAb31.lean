/- What came in, told by types of Lean; no condition. -/
import Derived.Test.YtojdhmkjegkfkaaAb30
namespace Go.Ab
open Go.RowKit
section
variable {P : Program} {h h' : Hp} {k : Nat} {t e : TypeId}
theorem RoRow.row {v : Value} {n z : Nat} {xs : List Value} (hr : RoRow h v n xs) (hl : xs.length = n * z) : Row h z v n xs := by
  rcases hr with ⟨h1, rfl, rfl⟩ | ⟨b, c, rfl, h2, h3, h4⟩
  · rcases h1 with rfl | rfl
    · exact Row.nil
    · exact ⟨⟨_, _, rfl⟩, by simp [srcA], by simp⟩
  · refine ⟨⟨_, _, rfl⟩, ?_, hl⟩
    by_cases h0 : n = 0
    · subst h0; simp at hl; subst hl; simp [srcA]
    · simp [srcA, h0, h4, hl]
      exact List.take_of_length_le (by omega)
theorem Rep.bool {cs : List Value} {d : Dt} (hu : P.underlying t = some .bool) (hr : Rep P h k t cs d) : ∃ x, cs = [.bool x] := by
  cases k with
  | zero => exact hr.elim
  | succ k =>
    simp only [Rep, hu] at hr
    split at hr
    · rename_i h1; exact ⟨_, hr⟩
    all_goals first | (rename_i h1; simp at h1; done) | exact hr.elim
theorem Rep.int {cs : List Value} {d : Dt} {q : IntKind} (hu : P.underlying t = some (.int q)) (hr : Rep P h k t cs d) : ∃ n, cs = [.int q n] ∧ q.min ≤ n ∧ n ≤ q.max := by
  cases k with
  | zero => exact hr.elim
  | succ k =>
    cases d <;> simp only [Rep, hu] at hr
    exact ⟨_, hr⟩
theorem Rep.str {cs : List Value} {d : Dt} (hu : P.underlying t = some .string) (hr : Rep P h k t cs d) : ∃ l, cs = [.string (bs l)] ∧ l.length ≤ reachBytes := by
  cases k with
  | zero => exact hr.elim
  | succ k =>
    cases d <;> simp only [Rep, hu] at hr
    exact ⟨_, hr⟩
/-- a slice: its elements told by a type of Lean -/
theorem Rep.slice {α : Type} {cs : List Value} {d : Dt} {z : Nat} (cells : α → List Value) (good : α → Prop) (hu : P.underlying t = some (.slice e)) (hz : P.cellsOf e = z)
    (hel : ∀ k x d, x.length = z → Rep P h k e x d → ∃ y : α, x = cells y ∧ good y) (hr : Rep P h k t cs d) :
    ∃ (v : Value) (l : List α), cs = [v] ∧ RoRow h v l.length (l.flatMap cells) ∧ l.length ≤ reachBytes ∧ (∀ y ∈ l, good y) ∧ (l.flatMap cells).length = l.length * z := by
  cases k with
  | zero => exact hr.elim
  | succ k =>
    cases d <;> simp only [Rep, hu] at hr
    rename_i ds
    obtain ⟨v, xss, rfl, h1, h2, h3, h4⟩ := hr
    have key : ∀ (xss : List (List Value)) (ds : List Dt), xss.length = ds.length → (∀ (i : Nat) x d, xss[i]? = some x → ds[i]? = some d → x.length = P.cellsOf e ∧ Rep P h k e x d) →
        ∃ l : List α, l.length = ds.length ∧ xss.flatten = l.flatMap cells ∧ (∀ y ∈ l, good y) ∧ (l.flatMap cells).length = l.length * z := by
      intro xss
      induction xss with
      | nil => intro ds hl _; cases ds with | nil => exact ⟨[], rfl, rfl, by simp, by simp⟩ | cons _ _ => simp at hl
      | cons x xss ih =>
        intro ds hl hx
        cases ds with
        | nil => simp at hl
        | cons d ds =>
          obtain ⟨l, g1, g2, g3, g4⟩ := ih ds (by simpa using hl) fun i x' d' hx' hd' => hx (i + 1) x' d' (by simpa using hx') (by simpa using hd')
          have h0 := hx 0 x d rfl rfl
          obtain ⟨y, rfl, gy⟩ := hel k x d (by rw [h0.1, hz]) h0.2
          refine ⟨y :: l, by simp [g1], by simp [g2], ?_, ?_⟩
          · intro y' hy'
            rcases List.mem_cons.1 hy' with rfl | hy'
            · exact gy
            · exact g3 _ hy'
          · simp only [List.flatMap_cons, List.length_append, g4, List.length_cons, Nat.add_mul]
            rw [h0.1, hz]; omega
    obtain ⟨l, g1, g2, g3, g4⟩ := key xss ds h2 h4
    exact ⟨v, l, rfl, by rw [g1, ← g2]; exact h1, by omega, g3, g4⟩
/-- a struct, field by field -/
def RepFs (P : Program) (h : Hp) (k : Nat) : List Field → List Value → Prop
  | [], cs => cs = []
  | f :: fs, cs => ∃ x d cs', cs = x ++ cs' ∧ Rep P h k f.type x d ∧ RepFs P h k fs cs'
theorem Rep.struct {cs : List Value} {d : Dt} {fs : Array Field} (hu : P.underlying t = some (.struct fs)) (hr : Rep P h k t cs d) : ∃ k, RepFs P h k fs.toList cs := by
  cases k with
  | zero => exact hr.elim
  | succ k =>
    cases d <;> simp only [Rep, hu] at hr
    rename_i ds
    obtain ⟨xss, rfl, h2, h3, h4⟩ := hr
    refine ⟨k, ?_⟩
    generalize fs.toList = l at h2 h3 h4
    induction l generalizing xss ds with
    | nil =>
      cases xss with
      | nil => simp [RepFs]
      | cons _ _ => simp at h2
    | cons f l ih =>
      cases xss with
      | nil => simp at h2
      | cons x xss =>
      cases ds with
      | nil => simp at h3
      | cons d ds =>
      exact ⟨x, d, xss.flatten, rfl, (h4 0 f x d rfl rfl rfl).2, ih ds xss (by simpa using h2) (by simpa using h3) fun i f x d hf hx hd => h4 (i + 1) f x d (by simpa using hf) (by simpa using hx) (by simpa using hd)⟩
theorem flatMap_one {α β : Type} (f : α → β) (l : List α) : l.flatMap (fun x => [f x]) = l.map f := by
  induction l with
  | nil => rfl
  | cons x l ih => simp [ih]
theorem Rep.strs {cs : List Value} {d : Dt} (hu : P.underlying t = some (.slice e)) (he : P.underlying e = some .string) (hz : P.cellsOf e = 1) (hr : Rep P h k t cs d) :
    ∃ (v : Value) (l : List (List UInt8)), cs = [v] ∧ RoRow h v l.length (l.map fun x => .string (bs x)) ∧ l.length ≤ reachBytes ∧ ∀ y ∈ l, y.length ≤ reachBytes := by
  obtain ⟨v, l, h1, h2, h3, h4, _⟩ := Rep.slice (fun x => [Value.string (bs x)]) (fun x => x.length ≤ reachBytes) hu hz (fun k x d _ hr => Rep.str he hr) hr
  exact ⟨v, l, h1, by rw [← flatMap_one]; exact h2, h3, h4⟩
theorem Rep.ints {cs : List Value} {d : Dt} {q : IntKind} (hu : P.underlying t = some (.slice e)) (he : P.underlying e = some (.int q)) (hz : P.cellsOf e = 1) (hr : Rep P h k t cs d) :
    ∃ (v : Value) (l : List Int), cs = [v] ∧ RoRow h v l.length (l.map fun x => .int q x) ∧ l.length ≤ reachBytes ∧ ∀ y ∈ l, q.min ≤ y ∧ y ≤ q.max := by
  obtain ⟨v, l, h1, h2, h3, h4, _⟩ := Rep.slice (fun x => [Value.int q x]) (fun x => q.min ≤ x ∧ x ≤ q.max) hu hz (fun k x d _ hr => Rep.int he hr) hr
  exact ⟨v, l, h1, by rw [← flatMap_one]; exact h2, h3, h4⟩
theorem Rep.bytes {cs : List Value} {d : Dt} (hu : P.underlying t = some (.slice e)) (he : P.underlying e = some (.int .u8)) (hz : P.cellsOf e = 1) (hr : Rep P h k t cs d) :
    ∃ (v : Value) (l : List UInt8), cs = [v] ∧ RoRow h v l.length (l.map byteV) ∧ l.length ≤ reachBytes := by
  obtain ⟨v, l, h1, h2, h3, _, _⟩ := Rep.slice (fun x : UInt8 => [byteV x]) (fun _ => True) hu hz (fun k x d _ hr => by
    obtain ⟨n, rfl, g1, g2⟩ := Rep.int he hr
    simp [IntKind.min, IntKind.max, IntKind.signed, IntKind.bits] at g1 g2
    refine ⟨UInt8.ofNat n.toNat, ?_, trivial⟩
    have : n = ((n.toNat % 256 : Nat) : Int) := by omega
    simp [byteV]; omega) hr
  exact ⟨v, l, h1, by rw [← flatMap_one]; exact h2, h3⟩
/-! parameters -/
theorem RepAll.cons {ts : List TypeId} {vs : List Value} {ds : List Dt} (hr : RepAll P h k (t :: ts) vs ds) : ∃ a vs' d ds', vs = a :: vs' ∧ ds = d :: ds' ∧ RepV P h k t a d ∧ RepAll P h k ts vs' ds' := by
  cases vs with
  | nil => cases ds <;> exact hr.elim
  | cons a vs => cases ds with
    | nil => exact hr.elim
    | cons d ds => exact ⟨a, vs, d, ds, rfl, rfl, hr.1, hr.2⟩
theorem RepAll.nil {vs : List Value} {ds : List Dt} (hr : RepAll P h k [] vs ds) : vs = [] := by
  cases vs with
  | nil => rfl
  | cons a vs => cases ds <;> exact hr.elim
theorem RepV.one {a : Value} {d : Dt} (hs : ∀ fs, P.underlying t ≠ some (.struct fs)) (hr : RepV P h k t a d) : Rep P h k t [a] d := by
  obtain ⟨cs, h1, h2⟩ := hr
  obtain ⟨v, rfl⟩ := h1.one hs
  have : a = v := by
    rw [h2]; split
    · exact absurd ‹_› (hs _)
    · rfl
  rw [this]; exact h1
theorem RepV.bool {a : Value} {d : Dt} (hu : P.underlying t = some .bool) (hr : RepV P h k t a d) : ∃ x, a = .bool x := by
  obtain ⟨x, hx⟩ := Rep.bool hu (hr.one (by simp [hu])); simp at hx; exact ⟨x, hx⟩
theorem RepV.int {a : Value} {d : Dt} {q : IntKind} (hu : P.underlying t = some (.int q)) (hr : RepV P h k t a d) : ∃ n, a = .int q n ∧ q.min ≤ n ∧ n ≤ q.max := by
  obtain ⟨n, hx, hn⟩ := Rep.int hu (hr.one (by simp [hu])); simp at hx; exact ⟨n, hx, hn⟩
theorem RepV.str {a : Value} {d : Dt} (hu : P.underlying t = some .string) (hr : RepV P h k t a d) : ∃ l, a = .string (bs l) ∧ l.length ≤ reachBytes := by
  obtain ⟨n, hx, hn⟩ := Rep.str hu (hr.one (by simp [hu])); simp at hx; exact ⟨n, hx, hn⟩
theorem RepV.strs {a : Value} {d : Dt} (hu : P.underlying t = some (.slice e)) (he : P.underlying e = some .string) (hz : P.cellsOf e = 1) (hr : RepV P h k t a d) :
    ∃ l : List (List UInt8), RoRow h a l.length (l.map fun x => .string (bs x)) ∧ l.length ≤ reachBytes ∧ ∀ y ∈ l, y.length ≤ reachBytes := by
  obtain ⟨v, l, h1, h2⟩ := Rep.strs hu he hz (hr.one (by simp [hu])); simp at h1; subst h1; exact ⟨l, h2⟩
theorem RepV.ints {a : Value} {d : Dt} {q : IntKind} (hu : P.underlying t = some (.slice e)) (he : P.underlying e = some (.int q)) (hz : P.cellsOf e = 1) (hr : RepV P h k t a d) :
    ∃ l : List Int, RoRow h a l.length (l.map fun x => .int q x) ∧ l.length ≤ reachBytes ∧ ∀ y ∈ l, q.min ≤ y ∧ y ≤ q.max := by
  obtain ⟨v, l, h1, h2⟩ := Rep.ints hu he hz (hr.one (by simp [hu])); simp at h1; subst h1; exact ⟨l, h2⟩
theorem RepV.bytes {a : Value} {d : Dt} (hu : P.underlying t = some (.slice e)) (he : P.underlying e = some (.int .u8)) (hz : P.cellsOf e = 1) (hr : RepV P h k t a d) :
    ∃ l : List UInt8, RoRow h a l.length (l.map byteV) ∧ l.length ≤ reachBytes := by
  obtain ⟨v, l, h1, h2⟩ := Rep.bytes hu he hz (hr.one (by simp [hu])); simp at h1; subst h1; exact ⟨l, h2⟩
theorem RepV.slice {α : Type} {a : Value} {d : Dt} {z : Nat} (cells : α → List Value) (good : α → Prop) (hu : P.underlying t = some (.slice e)) (hz : P.cellsOf e = z)
    (hel : ∀ k x d, x.length = z → Rep P h k e x d → ∃ y : α, x = cells y ∧ good y) (hr : RepV P h k t a d) :
    ∃ l : List α, RoRow h a l.length (l.flatMap cells) ∧ l.length ≤ reachBytes ∧ (∀ y ∈ l, good y) ∧ (l.flatMap cells).length = l.length * z := by
  obtain ⟨v, l, h1, h2⟩ := Rep.slice cells good hu hz hel (hr.one (by simp [hu])); simp at h1; subst h1; exact ⟨l, h2⟩
theorem RepV.struct {a : Value} {d : Dt} {fs : Array Field} (hu : P.underlying t = some (.struct fs)) (hr : RepV P h k t a d) : ∃ cs k, a = .agg cs.toArray ∧ RepFs P h k fs.toList cs := by
  obtain ⟨cs, h1, h2⟩ := hr
  obtain ⟨k, hk⟩ := Rep.struct hu h1
  exact ⟨cs, k, by rw [h2, hu], hk⟩
end
end Go.Ab
