/- files.Path: what it answers; no condition. -/
import Derived.Test.YtbamofeocfbjbaaFilesA
namespace Go.Proofs.Ytbamofeocfbjbaa
open Go.Ab Go.Glob
theorem parts_ev (p : Bs) (h : Hp) : EvA Try.prog 55 [.string (bs p)] (fun r h' => h' = h ++ [.cells [.string (bs p)] false none] ∧ r = .func (.func 83) #[] #[.pointer (some ⟨h.length, 0, none⟩)]) h := by
  refine EvA.body Try.func55 rfl (by kernel_rfl) (by simp) ?_
  apply Run.ok
  simp
/-- what lies in memory while Path reads parts -/
def pH (q : Bs) (L : LoopA) : Hp := [.cells [.bool false] false none, .cells [.string (bs q)] false none, .loop L]
set_option maxRecDepth 100000 in
set_option maxHeartbeats 4000000 in
theorem path_base (p : Bs) : EvA Try.prog 31 [.string (bs p)] (fun r _ => flat r = true ∧ r = .bool (pathB p)) [] := by
  refine EvA.body Try.func31 rfl (by kernel_rfl) (by simp) ?_
  apply Run.ok
  by_cases c : p.length ≤ 48
  · have c' : ¬ (48 : Int) < p.length := by omega
    simp [c']
    refine after_call (parts_ev p _) ?_
    rintro r h' ⟨rfl, rfl⟩
    simp
    refine WpA.rangeFunc (gf := 83) (first := #[]) (cap := #[.pointer (some ⟨1, 0, none⟩)]) (by simp) ?_
    intro L l1 l2 l3 l4 l5 l6 l7
    have bodyW : ∀ (x q : Bs) (fr : Fr) (Q : QA), x.length < 1000000000 → fr 2 = .pointer (some ⟨0, 0, none⟩) → fr 3 = .string (bs x) → (okPart x = true → ∀ fr', Q .normal fr' (pH q (busyL L))) → (okPart x = false → ∀ fr', Q .ret fr' (pH q (busyL L))) →
        WpA Try.prog Try.f31.ntmps L.body Q fr (pH q (busyL L)) := by
      intro x q fr Q hx f2 f3 hQn hQr
      rw [l7]
      apply Run.ok
      have z0 : (ByteArray.mk #[] : ByteArray) = bs [] := rfl
      by_cases c1 : x = []
      · simp [f2, f3, c1, pH, z0]
        exact hQr (by simp [okPart, goodP, c1]) _
      by_cases c2 : x = [46]
      · simp [f2, f3, c2, pH, z0]
        exact hQr (by simp [okPart, goodP, c2]) _
      by_cases c3 : x = [46, 46]
      · simp [f2, f3, c3, pH, z0]
        exact hQr (by simp [okPart, goodP, c3]) _
      have hg : goodP x = true := by simp [goodP, c1, c2, c3]
      simp [f3, c1, c2, c3, pH, z0]
      refine WpA.loop (fun k fr h' => ∃ (i : Nat), k = x.length - i ∧ i ≤ x.length ∧ fr 2 = .pointer (some ⟨0, 0, none⟩) ∧ fr 3 = .string (bs x) ∧ fr 22 = .int .i64 (x.length : Nat) ∧ fr 23 = .int .i64 (i : Nat) ∧ h' = pH q (busyL L) ∧ (x.take i).all plainC = true)
        (k := x.length) ⟨0, by omega, by omega, by simp [f2], by simp [f3], by simp, by simp, rfl, by simp⟩ ?_
      rintro k fr h' ⟨i, rfl, hi, f2, f3, f22, f23, rfl, hp⟩
      apply Run.ok
      by_cases hlt : i < x.length
      · have hlt' : (i : Int) < x.length := by omega
        have w1 : IntKind.i64.wrap ((i : Int) + 1) = (i : Int) + 1 := wrap_i64 (by omega) (by omega)
        have htk : x.take (i + 1) = x.take i ++ [x[i]] := by rw [List.take_add_one, List.getElem?_eq_getElem hlt]; rfl
        have hmem : x[i] ∈ x := List.getElem_mem _
        simp [f3, f22, f23, hlt, hlt', pH]
        refine after_call (plain_ev x[i] _) ?_
        rintro r h' ⟨rfl, rfl⟩
        cases hpc : plainC x[i] with
        | true =>
          simp [f23, w1, -roundQ_normal, ↓rq]
          exact stop_intro ⟨x.length - (i + 1), by omega, i + 1, rfl, by omega, by simp [f2], by simp [f3], by simp [f22], by simp, rfl, by rw [htk, List.all_append, hp, Bool.true_and]; simp only [List.all_cons, List.all_nil, hpc, Bool.and_true]⟩
        | false =>
          simp [f2]
          exact hQr (by simp only [okPart, Bool.and_eq_false_iff]; right; rw [List.all_eq_false]; exact ⟨_, hmem, by simp [hpc]⟩) _
      · have hlt' : ¬ (i : Int) < x.length := by omega
        rw [List.take_of_length_le (by omega)] at hp
        simp [f22, f23, hlt']
        exact hQn (by simp [okPart, hg, hp]) _
    simp
    refine EvA.body Try.func83 rfl (by kernel_rfl) (by simp) ?_
    apply Run.ok
    simp
    refine WpA.loop (fun k fr h' => ∃ (q : Bs) (more : Bool), k = (if more then q.length + 1 else 0) ∧ fr 0 = .func (.yield 2) #[] #[] ∧ fr 1 = .pointer (some ⟨1, 0, none⟩) ∧ fr 3 = .bool more ∧ h' = pH q L ∧ q.length ≤ p.length ∧ (more = true → (parts [] q).all okPart = (parts [] p).all okPart) ∧ (more = false → (parts [] p).all okPart = true))
      (k := p.length + 1) ⟨p, true, by simp, by simp, by simp, by simp, rfl, Nat.le_refl _, fun _ => rfl, by simp⟩ ?_
    rintro k fr h' ⟨q, more, rfl, f0, f1, f3, rfl, hq, ht, hf⟩
    apply Run.ok
    cases more with
    | false =>
      simp [f3, pH]
      refine ⟨L, by simp, by simp [l1], ?_⟩
      simp [l2, flat, ground, pathB, c, hf rfl]
    | true =>
      simp [f1, f3, pH]
      refine after_call (cut_ev q _ (by omega)) ?_
      rintro r h' ⟨rfl, rfl⟩
      have hpc := parts_cut q []
      have ht := ht rfl
      rw [hpc] at ht
      simp [f0, f1]
      refine after_round ⟨L, by simp, by simp [l5], by rw [l6]; rfl, by rw [l7]; rfl, ?_⟩
      rw [l6, l3]
      apply Run.ok
      simp [putPs, l3, l4, l5]
      refine ⟨rfl, L, rfl, l1, ?_⟩
      refine bodyW (cutS q).1 (cutS q).2.1 _ _ ?_ (by simp) (by simp) (fun hok fr' => ?_) (fun hok fr' => ?_)
      · have hs := cutS_spec q
        cases hf : (cutS q).2.2 with
        | true => have := congrArg List.length (hs.1 hf).1; simp at this; omega
        | false => rw [(hs.2 hf).1]; omega
      · refine ⟨busyL L, rfl, ?_⟩
        rw [readyL_busyL l1 l2]
        simp [pH, f0, f1]
        cases hfl : (cutS q).2.2 with
        | true =>
          rw [hfl] at ht
          simp only [List.nil_append, if_true, List.all_cons, hok, Bool.true_and] at ht
          have hlt := cutS_lt hfl
          exact ⟨(cutS q).2.1.length + 1, by omega, _, .inr ⟨rfl, rfl, rfl, by omega, ht⟩⟩
        | false =>
          rw [hfl] at ht
          simp only [List.nil_append, Bool.false_eq_true, if_false, List.all_cons, List.all_nil, hok, Bool.true_and] at ht
          exact ⟨0, by omega, _, .inl ⟨rfl, rfl, rfl, by rw [((cutS_spec q).2 hfl).2.1]; simp, List.all_eq_true.1 ht.symm⟩⟩
      · refine ⟨busyL L, rfl, ?_⟩
        simp only [List.all_cons, List.nil_append, hok, Bool.false_and] at ht
        simp [pH]
        refine ⟨doneL (busyL L) .ret, by simp, by simp [doneL], ?_⟩
        simp [doneL, flat, ground, pathB, c, ← ht]
  · have c' : (48 : Int) < p.length := by omega
    simp [c', pathB, c, flat, ground]
theorem path_ev (p : Bs) (h : Hp) : EvA Try.prog 31 [.string (bs p)] (fun r h' => h' = h ∧ r = .bool (pathB p)) h := EvA.base (h0 := []) (by simp [flat, ground]) (path_base p)
end Go.Proofs.Ytbamofeocfbjbaa
