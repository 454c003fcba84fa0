/- The law FilesAsks: called, it comes to true; no condition. -/
import Derived.Test.YtbamofeocfbjbaaFilesH
namespace Go.Proofs.Ytbamofeocfbjbaa
open Go.Ab Go.Glob
set_option maxHeartbeats 4000000 in
set_option maxRecDepth 6000 in
theorem asks17_ev {h : Hp} {a b w : Value} {A B : List Fl} {p : Bs} {W : List Bs} (ha : FRow h a A) (hb : FRow h b B) (hw : SRow h w W)
    (hla : A.length ≤ 140737488355328) (hxa : ∀ f ∈ A, f.1.length ≤ 140737488355328 ∧ f.2.length ≤ 140737488355328) (hlb : B.length ≤ 140737488355328) (hxb : ∀ f ∈ B, f.1.length ≤ 140737488355328 ∧ f.2.length ≤ 140737488355328) :
    EvA Try.prog 7 [a, b, .string (bs p), w] (fun r _ => r = .bool true) h := by
  refine EvA.body Try.func7 rfl (by kernel_rfl) (by simp) ?_
  apply Run.ok
  have wl := SRow.len (P := Try.prog) (t := 22) (e := 9) hw (by simp)
  simp
  refine after_call (large17_ev ha hla hxa) ?_
  rintro r g ⟨⟨bl, rfl, hbl⟩, rfl⟩
  cases bl with
  | true => simp
  | false =>
  obtain ⟨hla, hxa⟩ := hbl rfl
  simp
  refine after_call (large17_ev hb hlb hxb) ?_
  rintro r g ⟨⟨bl, rfl, hbl⟩, rfl⟩
  cases bl with
  | true => simp
  | false =>
  obtain ⟨hlb, hxb⟩ := hbl rfl
  by_cases c1 : 300 < p.length
  · have c1' : (300 : Int) < p.length := by omega
    simp [c1']
  have c1' : ¬ (300 : Int) < p.length := by omega
  by_cases c2 : 10 < W.length
  · have c2' : (10 : Int) < W.length := by omega
    simp [c1', c2', wl]
  have c2' : ¬ (10 : Int) < W.length := by omega
  have sa : Small A := ⟨by omega, fun f hf => by have := hxa f hf; omega⟩
  have sb : Small B := ⟨by omega, fun f hf => by have := hxb f hf; omega⟩
  simp [c1', c2', wl]
  refine after_call (get_ev ha (by omega) p) ?_
  rintro r g ⟨rfl, rfl⟩
  simp
  refine after_call (rget_ev ha (by omega) p) ?_
  rintro r g ⟨rfl, rfl⟩
  simp
  refine after_call (path_ev p _) ?_
  rintro r g ⟨rfl, rfl⟩
  simp
  refine after_call (rpath_ev p _) ?_
  rintro r g ⟨rfl, rfl⟩
  simp
  refine after_call (check17_ev ha sa) ?_
  rintro r g ⟨rfl, rfl⟩
  simp
  refine after_call (rcheck17_ev ha sa) ?_
  rintro r g ⟨rfl, rfl⟩
  simp
  refine after_call (size_ev ha sa) ?_
  rintro r g ⟨rfl, rfl⟩
  simp
  refine after_call (rsize_ev ha sa) ?_
  rintro r g ⟨rfl, rfl⟩
  simp
  refine after_call (pick_ev ha hw sa (by omega)) ?_
  rintro v1 g1 ⟨F1, s1⟩
  simp
  refine after_call (rpick17_ev (ha.same s1) (hw.same s1) sa (by omega)) ?_
  rintro v2 g2 ⟨F2, s2⟩
  simp
  have hpl := Nat.le_trans (pickF_le W A) hla
  refine after_call (rsame_ev (FAcc.row (F1.same s2)) (FAcc.row F2) (by omega) (by omega)) ?_
  rintro r g3 ⟨rfl, rfl⟩
  simp
  refine after_call (same_ev ((ha.same s1).same s2) ((hb.same s1).same s2) (by omega) (by omega)) ?_
  rintro r g3 ⟨rfl, rfl⟩
  simp
  refine after_call (rsame_ev ((ha.same s1).same s2) ((hb.same s1).same s2) (by omega) (by omega)) ?_
  rintro r g3 ⟨rfl, rfl⟩
  simp
theorem inFiles {h : Hp} {k : Nat} {a : Value} {d : Dt} (hr : RepV Try.prog h k 44 a d) : ∃ l, FRow h a l ∧ l.length ≤ 140737488355328 ∧ ∀ f ∈ l, f.1.length ≤ 140737488355328 ∧ f.2.length ≤ 140737488355328 := by
  obtain ⟨l, h1, h2, h3, h4⟩ := hr.slice (e := 57) (z := 2) cellF (fun f => f.1.length ≤ 140737488351232 ∧ f.2.length ≤ 140737488351232) (by simp) (by kernel_rfl)
    (fun k x d _ hx => by
      obtain ⟨k, hf⟩ := hx.struct (by simp; rfl)
      simp only [RepFs] at hf
      obtain ⟨x0, d0, _, rfl, r0, x1, d1, _, rfl, r1, rfl⟩ := hf
      obtain ⟨p, rfl, hp⟩ := r0.str (by simp)
      obtain ⟨q, rfl, hq⟩ := r1.str (by simp)
      exact ⟨(p, q), rfl, hp, hq⟩)
  exact ⟨l, h1.rows (fun _ _ => rfl) h4, Nat.le_trans h2 (by decide), fun f hf => ⟨Nat.le_trans (h3 f hf).1 (by decide), Nat.le_trans (h3 f hf).2 (by decide)⟩⟩
theorem filesAsks_ev (h : Hp) (vs : List Value) (dts : List Dt) (hr : RepAll Try.prog h 6 [44, 44, 9, 22] vs dts) : EvA Try.prog 7 vs (fun r _ => r = .bool true) h := by
  obtain ⟨a, vs, e, ds, rfl, rfl, h1, hr⟩ := hr.cons
  obtain ⟨b, vs, e2, ds, rfl, rfl, h2, hr⟩ := hr.cons
  obtain ⟨c, vs, e3, ds, rfl, rfl, h3, hr⟩ := hr.cons
  obtain ⟨d, vs, e4, ds, rfl, rfl, h4, hr⟩ := hr.cons
  rw [hr.nil]
  obtain ⟨A, a1, a2, a3⟩ := inFiles h1
  obtain ⟨B, b1, b2, b3⟩ := inFiles h2
  obtain ⟨p, rfl, _⟩ := h3.str (by simp)
  obtain ⟨W, w1, w2, w3⟩ := h4.strs (e := 9) (by simp) (by simp) (by kernel_rfl)
  exact asks17_ev a1 b1 w1.strs a2 a3 b2 b3
end Go.Proofs.Ytbamofeocfbjbaa
