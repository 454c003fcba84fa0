/- bastionref17.Path: what it answers; no condition. -/
import Derived.Test.YtbamofeocfbjbaaFilesB
namespace Go.Proofs.Ytbamofeocfbjbaa
open Go.Ab Go.Glob
theorem seg_next {p : Bs} {a i : Nat} (h : a ≤ i) (hi : i < p.length) : (p.drop a).take (i + 1 - a) = (p.drop a).take (i - a) ++ [p[i]] := by
  have : i + 1 - a = (i - a) + 1 := by omega
  rw [this, List.take_add_one]
  congr 1
  rw [List.getElem?_drop, show a + (i - a) = i by omega, List.getElem?_eq_getElem hi]
  rfl
set_option maxRecDepth 100000 in
set_option maxHeartbeats 4000000 in
theorem rpath_ev (p : Bs) (h : Hp) : EvA Try.prog 32 [.string (bs p)] (fun r h' => h' = h ∧ r = .bool (pathB p)) h := by
  refine EvA.body Try.func32 rfl (by kernel_rfl) (by simp) ?_
  apply Run.ok
  have z0 : (ByteArray.mk #[] : ByteArray) = bs [] := rfl
  by_cases c : p.length ≤ 48
  · have c' : ¬ (48 : Int) < p.length := by omega
    by_cases c0 : p = []
    · simp [c0, z0, pathB, parts, okPart, goodP]
    simp [c0, c', z0]
    refine WpA.loop (fun k fr h' => ∃ (a i : Nat), k = p.length + 1 - i ∧ a ≤ i ∧ i ≤ p.length + 1 ∧ fr 0 = .string (bs p) ∧ fr 3 = .int .i64 (a : Nat) ∧ fr 4 = .int .i64 (i : Nat) ∧ h' = h ∧ (i ≤ p.length → ((p.drop a).take (i - a)).all plainC = true ∧ (parts ((p.drop a).take (i - a)) (p.drop i)).all okPart = (parts [] p).all okPart) ∧ (p.length < i → (parts [] p).all okPart = true))
      (k := p.length + 1) ⟨0, 0, by simp, by omega, by omega, by simp, by simp, by simp, rfl, fun _ => by simp, fun h => by omega⟩ ?_
    rintro k fr h' ⟨a, i, rfl, hai, hi, f0, f3, f4, rfl, hA, hB⟩
    apply Run.ok
    by_cases cl : i ≤ p.length
    · have cl' : (i : Int) ≤ p.length := by omega
      have w1 : IntKind.i64.wrap ((i : Int) + 1) = (i : Int) + 1 := wrap_i64 (by omega) (by omega)
      have ca' : (a : Int) ≤ i := by omega
      obtain ⟨hpl, hps⟩ := hA cl
      have cut : ∀ (s : Bs), s = (p.drop a).take (i - a) → (bs p).extract a i = bs s := fun s hs => by rw [bs_extract, hs]
      obtain ⟨s, hs⟩ : ∃ s, s = (p.drop a).take (i - a) := ⟨_, rfl⟩
      have cut := cut s hs
      rw [← hs] at hpl hps
      by_cases hlt : i < p.length
      · have hlt' : (i : Int) < p.length := by omega
        have hdr : p.drop i = p[i] :: p.drop (i + 1) := List.drop_eq_getElem_cons hlt
        have hsn := seg_next hai hlt
        rw [← hs] at hsn
        rw [hdr, parts] at hps
        obtain ⟨x, hx⟩ : ∃ x, x = p[i] := ⟨_, rfl⟩
        rw [← hx] at hps hsn
        by_cases c47 : x = 47
        · have e47 : (((x.toNat : Nat) : Int) != 47) = false := by rw [c47]; rfl
          rw [if_pos c47] at hps
          by_cases d1 : s = []
          · simp [f0, f3, f4, cl', hlt, hlt', ca', ← hx, e47, cut, d1, z0]
            simp [pathB, ← hps, d1, okPart, goodP]
          by_cases d2 : s = [46]
          · simp [f0, f3, f4, cl', hlt, hlt', ca', ← hx, e47, cut, d2, z0]
            simp [pathB, ← hps, d2, okPart, goodP]
          by_cases d3 : s = [46, 46]
          · simp [f0, f3, f4, cl', hlt, hlt', ca', ← hx, e47, cut, d3, z0]
            simp [pathB, ← hps, d3, okPart, goodP]
          simp [f0, f3, f4, cl', hlt, hlt', ca', ← hx, e47, cut, d1, d2, d3, z0, w1, -roundQ_normal, ↓rq]
          have hok : okPart s = true := by simp [okPart, goodP, d1, d2, d3]; simpa using hpl
          exact stop_intro ⟨p.length + 1 - (i + 1), by omega, i + 1, i + 1, rfl, by omega, by omega, by simp [f0], by simp, by simp, rfl, fun _ => ⟨by simp, by simp only [Nat.sub_self, List.take_zero]; rw [← hps, List.all_cons, hok, Bool.true_and]⟩, fun h => by omega⟩
        · have e47 : (((x.toNat : Nat) : Int) == 47) = false := (u8_beq x 47 47 rfl).trans (by simp [c47])
          rw [if_neg c47] at hps
          by_cases hpx : plainC x = true
          · have hnext : ∀ (fr : Fr), fr 0 = .string (bs p) → fr 3 = .int .i64 (a : Nat) → fr 4 = .int .i64 ((i : Int) + 1) → ∃ m, m < p.length + 1 - i ∧ (∃ (a i : Nat), m = p.length + 1 - i ∧ a ≤ i ∧ i ≤ p.length + 1 ∧ fr 0 = .string (bs p) ∧ fr 3 = .int .i64 (a : Nat) ∧ fr 4 = .int .i64 (i : Nat) ∧ h' = h' ∧ (i ≤ p.length → ((p.drop a).take (i - a)).all plainC = true ∧ (parts ((p.drop a).take (i - a)) (p.drop i)).all okPart = (parts [] p).all okPart) ∧ (p.length < i → (parts [] p).all okPart = true)) := by
              intro fr g0 g3 g4
              refine ⟨p.length + 1 - (i + 1), by omega, a, i + 1, rfl, by omega, by omega, g0, g3, by rw [g4]; simp, rfl, fun _ => ⟨?_, ?_⟩, fun h => by omega⟩
              · rw [hsn, List.all_append, hpl, Bool.true_and]; simp only [List.all_cons, List.all_nil, hpx, Bool.and_true]
              · rw [hsn]; exact hps
            unfold plainC at hpx
            rcases atoms x.toNat with ⟨a1, a2, b1, b2, d1, d2, e, u, q, _, v⟩ | ⟨a1, a2, b1, b2, d1, d2, e, u, q, _, v⟩ | ⟨a1, a2, b1, b2, d1, d2, e, u, q, _, v⟩ | ⟨a1, a2, b1, b2, d1, d2, e, u, q, _, v⟩ | ⟨a1, a2, b1, b2, d1, d2, e, u, q, _, v⟩ | ⟨a1, a2, b1, b2, d1, d2, e, u, q, _, v⟩ | ⟨a1, a2, b1, b2, d1, d2, e, u, q, _, v⟩ | ⟨a1, a2, b1, b2, d1, d2, e, u, q, _, v⟩ | ⟨a1, a2, b1, b2, d1, d2, e, u, q, _, v⟩ | ⟨a1, a2, b1, b2, d1, d2, e, u, q, _, v⟩ | ⟨a1, a2, b1, b2, d1, d2, e, u, q, _, v⟩ | ⟨a1, a2, b1, b2, d1, d2, e, u, q, _, v⟩
            all_goals
              first
              | (rw [v] at hpx; cases hpx; done)
              | (simp [f0, f4, cl', hlt, hlt', ← hx, e47, a1, a2, b1, b2, d1, d2, e, u, q, bne, w1, -roundQ_normal, ↓rq]
                 exact stop_intro (hnext _ (by simp [f0]) (by simp [f3]) (by simp)))
          · have hbad : pathB p = false := by
              simp only [pathB, Bool.and_eq_false_iff]
              right
              rw [← hps]
              refine parts_bad _ ?_
              rw [List.all_append]
              simp [hpx]
            rw [hbad]
            simp only [Bool.not_eq_true] at hpx
            unfold plainC at hpx
            rcases atoms x.toNat with ⟨a1, a2, b1, b2, d1, d2, e, u, q, _, v⟩ | ⟨a1, a2, b1, b2, d1, d2, e, u, q, _, v⟩ | ⟨a1, a2, b1, b2, d1, d2, e, u, q, _, v⟩ | ⟨a1, a2, b1, b2, d1, d2, e, u, q, _, v⟩ | ⟨a1, a2, b1, b2, d1, d2, e, u, q, _, v⟩ | ⟨a1, a2, b1, b2, d1, d2, e, u, q, _, v⟩ | ⟨a1, a2, b1, b2, d1, d2, e, u, q, _, v⟩ | ⟨a1, a2, b1, b2, d1, d2, e, u, q, _, v⟩ | ⟨a1, a2, b1, b2, d1, d2, e, u, q, _, v⟩ | ⟨a1, a2, b1, b2, d1, d2, e, u, q, _, v⟩ | ⟨a1, a2, b1, b2, d1, d2, e, u, q, _, v⟩ | ⟨a1, a2, b1, b2, d1, d2, e, u, q, _, v⟩
            all_goals
              first
              | (rw [v] at hpx; cases hpx; done)
              | (simp [f0, f4, cl', hlt, hlt', ← hx, e47, a1, a2, b1, b2, d1, d2, e, u, q, bne]; done)
      · have hlt' : ¬ (i : Int) < p.length := by omega
        have hie : i = p.length := by omega
        subst hie
        rw [List.drop_length, parts] at hps
        by_cases d1 : s = []
        · simp [f0, f3, f4, hlt', ca', cut, d1, z0]
          simp [pathB, ← hps, d1, okPart, goodP]
        by_cases d2 : s = [46]
        · simp [f0, f3, f4, hlt', ca', cut, d2, z0]
          simp [pathB, ← hps, d2, okPart, goodP]
        by_cases d3 : s = [46, 46]
        · simp [f0, f3, f4, hlt', ca', cut, d3, z0]
          simp [pathB, ← hps, d3, okPart, goodP]
        simp [f0, f3, f4, hlt', ca', cut, d1, d2, d3, z0, w1, -roundQ_normal, ↓rq]
        have hok : okPart s = true := by simp [okPart, goodP, d1, d2, d3]; simpa using hpl
        exact stop_intro ⟨p.length + 1 - (p.length + 1), by omega, p.length + 1, p.length + 1, rfl, by omega, by omega, by simp [f0], by simp, by simp, rfl, fun h => by omega, fun _ => by rw [← hps]; simp [hok]⟩
    · have cl' : ¬ (i : Int) ≤ p.length := by omega
      simp [f0, f4, cl', pathB, c, hB (by omega)]
  · have c' : (48 : Int) < p.length := by omega
    simp [c', pathB, c]
end Go.Proofs.Ytbamofeocfbjbaa
