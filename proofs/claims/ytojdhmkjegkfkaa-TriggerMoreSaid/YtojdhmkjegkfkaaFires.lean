/- trigger.Fires and bastionref29.Fires: what they answer; no condition. -/
import Derived.Test.YtojdhmkjegkfkaaPickLaw
namespace Go.Proofs.Ytojdhmkjegkfkaa
open Go.Ab Go.Glob
/-- an item: its arguments' slice beside them -/
structure It where
  no : Int
  word : List UInt8
  args : List (List UInt8)
  av : Value
def It.cells (x : It) : List Value := [.int .i64 x.no, str x.word, x.av]
def Items (h : Hp) (v : Value) (l : List It) : Prop := TRow h 3 v l It.cells ∧ ∀ x ∈ l, SRow h x.av x.args
theorem Items.same {h h' : Hp} {v : Value} {l : List It} (hi : Items h v l) (u : Same h h') : Items h' v l := ⟨hi.1.same u, fun x hx => (hi.2 x hx).same u⟩
/-- whether items fire -/
noncomputable def hits (l : List It) (w : List UInt8) (t : List (List UInt8)) : Bool := l.any fun x => decide (x.word = w) && t.any (anyM x.args)
def thereW (l : List It) (w : List UInt8) : Bool := l.any fun x => decide (x.word = w)
noncomputable def fires (l : List It) (w : List UInt8) (t : List (List UInt8)) : Bool := !thereW l w || hits l w t
theorem hits_snoc (l : List It) (x : It) (w : List UInt8) (t : List (List UInt8)) : hits (l ++ [x]) w t = (hits l w t || (decide (x.word = w) && t.any (anyM x.args))) := by simp [hits]
theorem thereW_snoc (l : List It) (x : It) (w : List UInt8) : thereW (l ++ [x]) w = (thereW l w || decide (x.word = w)) := by simp [thereW]
theorem take_snoc {α : Type} {l : List α} {i : Nat} (c : i < l.length) : l.take (i + 1) = l.take i ++ [l[i]] := by rw [List.take_add_one, List.getElem?_eq_getElem c]; rfl
theorem fires2_ev (x : It) (s : List UInt8) (b : Nat) (h : Hp) (hb : h[b]? = some (.cells [.int .i64 x.no, .string (bs x.word), x.av] false none)) (hv : SRow h x.av x.args) (hl : x.args.length ≤ 1000000000000000) (hs : s.length < 1000000000) :
    EvA Try.prog 45 [.string (bs s), .pointer (some ⟨b, 0, none⟩)] (fun r h' => h' = h ∧ r = .bool (anyM x.args s)) h := by
  refine EvA.body Try.func45 rfl (by kernel_rfl) (by simp) ?_
  apply Run.ok
  simp [hb]
  refine after_call (any_ev s hv hl hs) ?_
  rintro r h' ⟨rfl, rfl⟩
  simp
theorem fires1_ev {h : Hp} {v tv : Value} {l : List It} {t : List (List UInt8)} (w : List UInt8) (b : Nat) (hb : h[b]? = some (.cells [v] false none)) (hv : Items h v l) (ht : SRow h tv t)
    (hl : l.length ≤ 1000000000000) (ha : ∀ x ∈ l, x.args.length ≤ 1000000000000000) (htl : t.length ≤ 1000000000000) (hs : ∀ s ∈ t, s.length < 1000000000) :
    EvA Try.prog 43 [.string (bs w), tv, .pointer (some ⟨b, 0, none⟩)] (fun r h' => h' = h ∧ r = .bool (fires l w t)) h := by
  refine EvA.forget (Q := fun r => r = .bool (fires l w t)) ?_
  refine EvA.body Try.func43 rfl (by kernel_rfl) (by simp) ?_
  apply Run.ok
  have hlen := hv.1.len (P := Try.prog) (t := 26) (e := 53) (by simp)
  simp [hb, hlen]
  refine WpA.loop (fun k fr h' => ∃ i g, k = l.length - i ∧ i ≤ l.length ∧ fr 0 = .string (bs w) ∧ fr 1 = tv ∧ fr 6 = .bool (thereW (l.take i) w) ∧ fr 7 = .bool (hits (l.take i) w t) ∧ fr 10 = v ∧ fr 11 = .int .i64 (l.length : Nat) ∧ fr 12 = .int .i64 (i : Nat) ∧ h' = h ++ g)
    (k := l.length) ⟨0, [], by simp, by omega, by simp, by simp, by simp [thereW], by simp [hits], by simp, by simp, by simp, by simp⟩ ?_
  rintro k fr h' ⟨i, g, rfl, hi, f0, f1, f6, f7, f10, f11, f12, rfl⟩
  apply Run.ok
  by_cases c : i < l.length
  · have c' : (i : Int) < l.length := by omega
    have w1 : IntKind.i64.wrap ((i : Int) + 1) = (i : Int) + 1 := wrap_i64 (by omega) (by omega)
    have sm : Same h (h ++ g) := Same.new g
    have ia := (hv.1.same sm).ia (P := Try.prog) (t := 26) (e := 53) (by simp) (by simp) c .i64
    have ld := (hv.1.same sm).agg (P := Try.prog) (e := 53) (by simp) (by simp) c
    have hone := (Row.one (hv.2 l[i] (List.getElem_mem _))).2
    have htk := take_snoc c
    have hxm : l[i] ∈ l := List.getElem_mem _
    generalize l[i] = x at ld hone htk hxm
    have ld' : loadA Try.prog 53 (.pointer (some ⟨rbl v, rof v + i * 3, none⟩)) (h ++ g) = some (.agg #[.int .i64 x.no, .string (bs x.word), x.av]) := by rw [ld]; rfl
    have hth : thereW (l.take (i + 1)) w = (thereW (l.take i) w || decide (x.word = w)) := by rw [htk, thereW_snoc]
    have hht : hits (l.take (i + 1)) w t = (hits (l.take i) w t || (decide (x.word = w) && t.any (anyM x.args))) := by rw [htk, hits_snoc]
    simp [f0, f1, f6, f7, f10, f11, f12, c', ia, ld', hone, w1, spl, -load_ptr]
    generalize hG : h ++ (g ++ [Blk.cells [Value.int .i64 x.no, Value.string (bs x.word), x.av] false none]) = G
    have smG : Same h G := by rw [← hG]; exact Same.new _
    have hbG : G[h.length + g.length]? = some (.cells [.int .i64 x.no, .string (bs x.word), x.av] false none) := by rw [← hG, ← List.append_assoc, List.getElem?_append_right (by simp)]; simp
    have l1 := load_at (P := Try.prog) (t := 9) (o := 1) hbG (by simp)
    by_cases hw : x.word = w
    · cases hh : hits (l.take i) w t with
      | true =>
        rw [hh] at f7 hht
        simp [f0, f1, f6, f7, f10, f11, f12, l1, hw, w1, -load_ptr, -roundQ_normal, ↓rq]
        refine stop_intro ⟨l.length - (i + 1), by omega, i + 1, g ++ [_], rfl, by omega, by simp [f0], by simp [f1], by simp [hth, hw], by simp [hht], by simp [f10], by simp [f11], by simp, hG.symm⟩
      | false =>
        rw [hh] at f7 hht
        simp [f0, f1, f6, f7, f10, f11, f12, l1, hw, w1, -load_ptr]
        refine after_call (containsFunc_ev (p := anyM x.args) (ht.same smG) (by omega) ⟨45, _, rfl, fun s hsm => fires2_ev x s (h.length + g.length) G hbG ((hv.2 x hxm).same smG) (ha x hxm) (hs s hsm)⟩) ?_
        rintro r h2 ⟨rfl, rfl⟩
        simp [f0, f1, f6, f7, f10, f11, f12, w1, -roundQ_normal, ↓rq]
        refine stop_intro ⟨l.length - (i + 1), by omega, i + 1, g ++ [_], rfl, by omega, by simp [f0], by simp [f1], by simp [hth, hw], by simp [hht, hw], by simp [f10], by simp [f11], by simp, hG.symm⟩
    · simp [f0, f1, f6, f7, f10, f11, f12, l1, hw, w1, -load_ptr, -roundQ_normal, ↓rq]
      refine stop_intro ⟨l.length - (i + 1), by omega, i + 1, g ++ [_], rfl, by omega, by simp [f0], by simp [f1], by simp [f6, hth, hw], by simp [f7, hht, hw], by simp [f10], by simp [f11], by simp, hG.symm⟩
  · have c' : ¬ (i : Int) < l.length := by omega
    rw [List.take_of_length_le (by omega)] at f6 f7
    cases h6 : thereW l w <;> cases h7 : hits l w t <;> rw [h6] at f6 <;> rw [h7] at f7 <;> simp [f6, f7, f11, f12, c', fires, h6, h7, flat, ground]
theorem fires_ev {h : Hp} {v tv : Value} {l : List It} {t : List (List UInt8)} (ref : List UInt8) (hv : Items h v l) (ht : SRow h tv t)
    (hl : l.length ≤ 1000000000000) (ha : ∀ x ∈ l, x.args.length ≤ 1000000000000000) (htl : t.length ≤ 1000000000000) (hs : ∀ s ∈ t, s.length < 1000000000) (hr : ref.length < 1000000000) :
    EvA Try.prog 15 [v, .string (bs ref), tv] (fun r h' => h' = h ∧ r = .bool (fires l [111, 110] [ref] && fires l [112, 97, 116, 104, 115] t)) h := by
  refine EvA.forget (Q := fun r => r = .bool (fires l [111, 110] [ref] && fires l [112, 97, 116, 104, 115] t)) ?_
  refine EvA.body Try.func15 rfl (by kernel_rfl) (by simp) ?_
  apply Run.ok
  simp [Row.box hv.1.1, zeros, capO, spl]
  have hl1 := SRow.lit (h ++ [.cells [v] false none]) ref
  simp at hl1
  refine after_call (fires1_ev (t := [ref]) [111, 110] h.length (by simp) (hv.same (Same.new _)) hl1 hl ha (by simp) (by simpa using hr)) ?_
  rintro r h' ⟨rfl, rfl⟩
  cases h1 : fires l [111, 110] [ref] with
  | false => simp [flat, ground]
  | true =>
    simp
    refine after_call (fires1_ev [112, 97, 116, 104, 115] h.length (by simp) (hv.same (Same.new _)) (ht.same (Same.new _)) hl ha htl hs) ?_
    rintro r h' ⟨rfl, rfl⟩
    simp [flat, ground]
end Go.Proofs.Ytojdhmkjegkfkaa
