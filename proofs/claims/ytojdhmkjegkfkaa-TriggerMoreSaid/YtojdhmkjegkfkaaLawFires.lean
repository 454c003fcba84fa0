/- The law TriggerFires: called, it comes to true; no condition. -/
import Derived.Test.YtojdhmkjegkfkaaFiresD
namespace Go.Proofs.Ytojdhmkjegkfkaa
open Go.Ab Go.Glob
/-- what came in as items -/
structure InItems (h : Hp) (v : Value) (l : List It) : Prop where
  it : Items h v l
  len : l.length ≤ 140737488351232
  args : ∀ x ∈ l, x.args.length ≤ 140737488351232 ∧ ∀ a ∈ x.args, a.length ≤ 140737488351232
theorem inItems {h : Hp} {k : Nat} {a : Value} {d : Dt} (hr : RepV Try.prog h k 22 a d) : ∃ l, InItems h a l := by
  obtain ⟨l, h1, h2, h3, h4⟩ := hr.slice (e := 70) (z := 3) It.cells (fun x => RoRow h x.av x.args.length (x.args.map fun y => .string (bs y)) ∧ x.args.length ≤ 140737488351232 ∧ ∀ a ∈ x.args, a.length ≤ 140737488351232) (by simp) (by kernel_rfl)
    (fun k x d _ hx => by
      obtain ⟨k, hf⟩ := hx.struct (by simp; rfl)
      simp only [RepFs] at hf
      obtain ⟨x0, d0, _, rfl, r0, x1, d1, _, rfl, r1, x2, d2, _, rfl, r2, rfl⟩ := hf
      obtain ⟨n, rfl, _⟩ := r0.int (q := .i64) (by simp)
      obtain ⟨w, rfl, _⟩ := r1.str (by simp)
      obtain ⟨v, ar, rfl, g1, g2, g3⟩ := r2.strs (e := 9) (by simp) (by simp) (by kernel_rfl)
      exact ⟨⟨n, w, ar, v⟩, rfl, g1, g2, g3⟩)
  exact ⟨l, ⟨⟨h1.rows (fun _ _ => rfl) h4, fun x hx => (h3 x hx).1.strs⟩, h2, fun x hx => (h3 x hx).2⟩⟩
theorem lawFires_ev {h : Hp} {v tv : Value} {l : List It} {t : List (List UInt8)} (ref : List UInt8) (hv : InItems h v l) (ht : SRow h tv t) (htl : t.length ≤ 140737488351232) (hs : ∀ s ∈ t, s.length ≤ 140737488351232) :
    EvA Try.prog 3 [v, .string (bs ref), tv] (fun r _ => r = .bool true) h := by
  refine EvA.body Try.func3 rfl (by kernel_rfl) (by simp) ?_
  apply Run.ok
  simp
  refine after_call (large_ev hv.it ht hv.len hv.args htl hs) ?_
  rintro r h' ⟨rfl, b, rfl, hb⟩
  cases b with
  | true => simp
  | false =>
    obtain ⟨b1, b2, b3, b4⟩ := hb rfl
    by_cases hr : 500 < ref.length
    · have hr' : (500 : Int) < ref.length := by omega
      simp [hr']
    · have hr' : ¬ (500 : Int) < ref.length := by omega
      simp [hr']
      refine after_call (to_ev hv.it (by omega) (fun x hx => by have := b4 x hx; omega)) ?_
      rintro r h2 ⟨sm, l', tr⟩
      simp
      have hl' : l'.length = l.length := by have := congrArg List.length tr.key; simpa using this
      have ha' : ∀ x ∈ l', x.args.length ≤ 1000000000000000 := fun x hx => by
        have : x.key ∈ l.map It.key := by rw [← tr.key]; exact List.mem_map.2 ⟨x, hx, rfl⟩
        obtain ⟨y, hy, he⟩ := List.mem_map.1 this
        have : y.args = x.args := congrArg (fun z => z.2.2) he
        rw [← this]; have := b4 y hy; omega
      refine after_call (fires_ev ref tr.items (ht.same sm) (by omega) ha' (by omega) (fun s hs' => by have := b3 s hs'; omega) (by omega)) ?_
      rintro r2 h3 ⟨rfl, rfl⟩
      simp
      refine after_call (rfires_ev ref (hv.it.same sm) (ht.same sm) (by omega) (fun x hx => by have := b4 x hx; omega) (by omega) (fun s hs' => by have := b3 s hs'; omega) (by omega)) ?_
      rintro r3 h4 ⟨rfl, rfl⟩
      simp [fires_key tr.key]
theorem triggerFires_ev (h : Hp) (vs : List Value) (dts : List Dt) (hr : RepAll Try.prog h 6 [22, 9, 23] vs dts) : EvA Try.prog 3 vs (fun r _ => r = .bool true) h := by
  obtain ⟨a, vs, d, ds, rfl, rfl, h1, hr⟩ := hr.cons
  obtain ⟨b, vs, e, ds, rfl, rfl, h2, hr⟩ := hr.cons
  obtain ⟨c, vs, f, ds, rfl, rfl, h3, hr⟩ := hr.cons
  rw [hr.nil]
  obtain ⟨l, hl⟩ := inItems h1
  obtain ⟨ref, rfl, _⟩ := h2.str (by simp)
  obtain ⟨t, t1, t2, t3⟩ := h3.strs (e := 9) (by simp) (by simp) (by kernel_rfl)
  exact lawFires_ev ref hl t1.strs t2 t3
end Go.Proofs.Ytojdhmkjegkfkaa
