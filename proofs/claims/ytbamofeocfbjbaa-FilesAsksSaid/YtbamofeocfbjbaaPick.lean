/- glob.Any, glob.Pick, and bastionref10's: what they answer; the law GlobPicks; no condition. -/
import Derived.Test.YtbamofeocfbjbaaStrs
import Derived.Test.YtbamofeocfbjbaaLawGlobA
namespace Go.Proofs.Ytbamofeocfbjbaa
open Go.Ab Go.Glob
noncomputable def anyM (p : List (List UInt8)) (s : List UInt8) : Bool := p.any fun q => M q s
theorem any1_ev (q s : List UInt8) (b : Nat) (h : Hp) (hb : h[b]? = some (.cells [.string (bs s)] false none)) (hs : s.length < 1000000000) :
    EvA Try.prog 87 [.string (bs q), .pointer (some ⟨b, 0, none⟩)] (fun r h' => h' = h ∧ r = .bool (M q s)) h := by
  refine EvA.body Try.func87 rfl (by kernel_rfl) (by simp) ?_
  apply Run.ok
  simp [hb]
  refine after_call (match_ev q s _ hs) ?_
  rintro r h' ⟨rfl, rfl⟩
  simp
theorem any_ev {h : Hp} {v : Value} {p : List (List UInt8)} (s : List UInt8) (hv : SRow h v p) (hl : p.length ≤ 1000000000000000) (hs : s.length < 1000000000) :
    EvA Try.prog 61 [v, .string (bs s)] (fun r h' => h' = h ∧ r = .bool (anyM p s)) h := by
  refine EvA.forget (Q := fun r => r = .bool (anyM p s)) ?_
  refine EvA.body Try.func61 rfl (by kernel_rfl) (by simp) ?_
  apply Run.ok
  simp
  refine after_call (containsFunc_ev (p := fun q => M q s) (hv.same (Same.new _)) hl ⟨87, _, rfl, fun x _ => any1_ev x s h.length _ (by simp) hs⟩) ?_
  rintro r h' ⟨rfl, rfl⟩
  simp [anyM, flat, ground]
theorem rany_ev {h : Hp} {v : Value} {p : List (List UInt8)} (s : List UInt8) (hv : SRow h v p) (hl : p.length ≤ 1000000000000000) (hs : s.length < 1000000000) :
    EvA Try.prog 62 [v, .string (bs s)] (fun r h' => h' = h ∧ r = .bool (anyM p s)) h := by
  refine EvA.body Try.func62 rfl (by kernel_rfl) (by simp) ?_
  apply Run.ok
  have hlen := SRow.len (P := Try.prog) (t := 22) (e := 9) hv (by simp)
  simp
  refine WpA.loop (fun k fr h' => ∃ i, k = p.length - i ∧ i ≤ p.length ∧ fr 0 = v ∧ fr 1 = .string (bs s) ∧ fr 5 = .int .i64 (i : Nat) ∧ h' = h ∧ ∀ x ∈ p.take i, M x s = false)
    (k := p.length) ⟨0, by simp, by omega, by simp, by simp, by simp, rfl, by simp⟩ ?_
  rintro k fr h' ⟨i, rfl, hi, f0, f1, f5, rfl, hp⟩
  apply Run.ok
  by_cases c : i < p.length
  · have c' : (i : Int) < p.length := by omega
    have w1 : IntKind.i64.wrap ((i : Int) + 1) = (i : Int) + 1 := wrap_i64 (by omega) (by omega)
    have ia := SRow.ia (P := Try.prog) (t := 22) (e := 9) hv (by simp) (by simp) c .i64
    have ld := SRow.ld (P := Try.prog) (f := 9) hv (by simp) c
    simp [f0, f1, f5, hlen, c', ia, ld, -load_ptr]
    refine after_call (rmatch_ev p[i] s _ hs) ?_
    rintro r h2 ⟨rfl, rfl⟩
    cases hpx : M p[i] s with
    | true =>
      have : anyM p s = true := List.any_eq_true.2 ⟨p[i], List.getElem_mem _, hpx⟩
      simp [this]
    | false =>
      simp [f0, f1, f5, w1, -roundQ_normal, ↓rq]
      refine stop_intro ⟨p.length - (i + 1), by omega, i + 1, rfl, by omega, by simp [f0], by simp [f1], by simp, rfl, fun x hx => ?_⟩
      rw [List.take_add_one, List.getElem?_eq_getElem c] at hx
      rcases List.mem_append.1 hx with hx | hx
      · exact hp x hx
      · simp at hx; subst hx; exact hpx
  · have c' : ¬ (i : Int) < p.length := by omega
    rw [List.take_of_length_le (by omega)] at hp
    have : anyM p s = false := by simpa [anyM] using hp
    simp [f0, f5, hlen, c', this]
end Go.Proofs.Ytbamofeocfbjbaa
