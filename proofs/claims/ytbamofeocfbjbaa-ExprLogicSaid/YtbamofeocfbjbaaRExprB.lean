/- The document's conditions (bastionref11): rows, terms, and what all words come to; no condition. -/
import Derived.Test.YtbamofeocfbjbaaRExpr
namespace Go.Proofs.Ytbamofeocfbjbaa
open Go.Ab Go.Glob
set_option maxHeartbeats 2000000 in
set_option maxRecDepth 6000 in
theorem rrow_ev {n : Nat} (hT : RTerm n) : RRow n := by
  intro W i0 hl hsz hi0 hn h w d hd hw
  refine EvA.body Try.func51 rfl (by kernel_rfl) (by simp) ?_
  apply Run.ok
  simp
  refine WpA.loop (fun z fr g => ∃ (i : Nat) (any part : Bool) (tv : Value) (ts : List Bs), z = W.length - i ∧ i0 ≤ i ∧ i ≤ W.length ∧ fr 0 = w ∧ fr 1 = .int .i64 (i : Nat) ∧ fr 2 = .int .i64 (d : Nat) ∧ fr 10 = .bool any ∧ fr 11 = .bool part ∧ fr 12 = tv ∧ Same h g ∧ Acc h.length g 1 tv ts.length (ts.map str) ∧ ts.length ≤ i ∧
      rowE d false true (W.drop i0) = (rowE d any part (W.drop i)).pre ts)
    (k := W.length - i0) ⟨i0, false, true, _, [], rfl, by omega, by omega, by simp, by simp, by simp, by simp, by simp, by simp, Same.refl, Acc.nil _, by simp, by cases rowE d false true (W.drop i0) <;> simp [Out.pre]⟩ ?_
  rintro z fr g ⟨i, any, part, tv, ts, rfl, hii, hi, f0, f1, f2, f10, f11, f12, sm, A, htl, hrel⟩
  apply Run.ok
  have hwg := hw.same sm
  simp [f0, f1, f2]
  refine after_call (hT W i hl hsz hi (by omega) g w d hd hwg) ?_
  rintro r g1 ⟨s1, v, lv, kk, e, rfl, hc, hone, hq⟩
  rw [rowE_eq d any part (W.drop i)] at hrel
  cases ho : termE d (W.drop i) with
  | bad c =>
    rw [ho] at hq hrel
    obtain ⟨rfl, rfl⟩ := hq
    have hc0 := (bads_are _ (W.drop i) (Nat.le_refl _)).1 _ _ ho
    have e' : ((e : Int) != 0) = true := by simp; omega
    rw [hrel]
    simp [e', Out.pre]
    exact ⟨sm.trans s1, false, _, kk, e, rfl, by simp, by simp, rfl, rfl⟩
  | ok v' t rest =>
    rw [ho] at hq hrel
    obtain ⟨rfl, rfl, hkk, rfl, hS, hlv⟩ := hq
    have htl2 := termE_texts ho
    simp only [List.length_drop] at htl2
    have hlt := termE_lt ho
    simp only [List.length_drop] at hlt
    have A1 := A.same s1
    have hg1 := s1.len
    have hg := sm.len
    obtain ⟨tv', g2, e2, A2, u2, n2⟩ := appStrs4 A1 (by omega) hS (by omega)
    have sm2 : Same h g2 := Upd.trans (sm.trans s1) u2 fun j hj hin => by have := (A1.above j hin).1; omega
    have hw2 := hw.same sm2
    have wl := WL hw2
    simp only at hrel
    generalize hp : (part && v) = p at hrel
    have fin : ∀ (q : Bool), (∀ x, (W.drop kk) ≠ wAnd :: x) → (∀ x, (W.drop kk) ≠ wOr :: x) → (goOn d any p t (W.drop kk)).pre ts = .ok (any || p) (ts ++ t) (W.drop kk) := fun _ h1 h2 => by
      generalize W.drop kk = R at h1 h2
      cases R with
      | nil => rfl
      | cons x y =>
        have e1 : x ≠ wAnd := fun e => h1 y (by rw [e])
        have e2 : x ≠ wOr := fun e => h2 y (by rw [e])
        simp [goOn, e1, e2, Out.pre]
    by_cases c : kk < W.length
    · have c' : (kk : Int) < W.length := by omega
      have ia := WIA hw2 c
      have ld := WLD hw2 c
      have hdr := drop1 c
      have w1 : IntKind.i64.wrap ((kk : Int) + 1) = ((kk + 1 : Nat) : Int) := by rw [wrap_i64 (by omega) (by omega)]; omega
      generalize W[kk] = x at ld hdr
      generalize hz : ((kk + 1 : Nat) : Int) = z1 at w1
      by_cases ca : x = wAnd
      · subst ca
        have hrel2 : rowE d false true (W.drop i0) = (rowE d any p (W.drop (kk + 1))).pre (ts ++ t) := by
          rw [hrel, hdr]; simp [goOn, Out.pre_pre]
        have key : decide (wAnd = [97, 110, 100]) = true := by decide
        rcases Bool.eq_false_or_eq_true part with hpt | hpt
        all_goals
          simp [f0, f1, f2, f10, f11, f12, e2, hpt, wl, c', ia, ld, wAnd, w1, -load_ptr, -roundQ_normal, ↓rq]
          refine stop_intro ⟨W.length - (kk + 1), by omega, kk + 1, any, p, tv', ts ++ t, rfl, by omega, by omega, by simp [f0], by simp [hz], by simp [f2], by simp [f10], by simp [← hp, hpt, f11], by simp, sm2, A2, by simp; omega, hrel2⟩
      · have ca' : ¬ x = [97, 110, 100] := ca
        by_cases co : x = wOr
        · subst co
          have hrel2 : rowE d false true (W.drop i0) = (rowE d (any || p) true (W.drop (kk + 1))).pre (ts ++ t) := by
            rw [hrel, hdr]; simp [goOn, Out.pre_pre, wAnd, wOr]
          rcases Bool.eq_false_or_eq_true part with hpt | hpt <;> rcases Bool.eq_false_or_eq_true any with hat | hat
          all_goals
            simp [f0, f1, f2, f10, f11, f12, e2, hpt, hat, wl, c', ia, ld, wOr, w1, -load_ptr, -roundQ_normal, ↓rq]
            refine stop_intro ⟨W.length - (kk + 1), by omega, kk + 1, any || p, true, tv', ts ++ t, rfl, by omega, by omega, by simp [f0], by simp [hz], by simp [f2], by simp [← hp, hpt, hat], by simp, by simp, sm2, A2, by simp; omega, hrel2⟩
        · have co' : ¬ x = [111, 114] := co
          have hfin := fin true (fun y hy => ca (by rw [hdr] at hy; cases hy; rfl)) (fun y hy => co (by rw [hdr] at hy; cases hy; rfl))
          rw [hrel, hfin]
          rcases Bool.eq_false_or_eq_true part with hpt | hpt <;> rcases Bool.eq_false_or_eq_true any with hat | hat
          all_goals
            simp [f0, f1, f2, f10, f11, f12, e2, hpt, hat, wl, c', ia, ld, ca', co', -load_ptr]
            refine ⟨sm2, _, tv', kk, 0, rfl, (Row.one A2.row).1, (Row.one A2.row).2, rfl, by simp [← hp, hpt], hkk, rfl, A2.row, fun j hj => A2.above j hj⟩
    · have c' : ¬ (kk : Int) < W.length := by omega
      have hfin := fin true (fun y hy => by rw [List.drop_of_length_le (by omega)] at hy; cases hy) (fun y hy => by rw [List.drop_of_length_le (by omega)] at hy; cases hy)
      rw [hrel, hfin]
      rcases Bool.eq_false_or_eq_true part with hpt | hpt <;> rcases Bool.eq_false_or_eq_true any with hat | hat
      all_goals
        simp [f0, f1, f2, f10, f11, f12, e2, hpt, hat, wl, c', -load_ptr]
        refine ⟨sm2, _, tv', kk, 0, rfl, (Row.one A2.row).1, (Row.one A2.row).2, rfl, by simp [← hp, hpt], hkk, rfl, A2.row, fun j hj => A2.above j hj⟩
set_option maxHeartbeats 2000000 in
set_option maxRecDepth 6000 in
theorem rterm_ev {n : Nat} (hT : ∀ k, k < n → RTerm k) : RTerm n := by
  intro W i hl hsz hi hn h w d hd hw
  refine EvA.body Try.func79 rfl (by kernel_rfl) (by simp) ?_
  apply Run.ok
  simp
  refine after_call (compares_ev hw hl hi) ?_
  rintro r h ⟨rfl, rfl⟩
  have wl := WL hw
  have w1 : IntKind.i64.wrap ((i : Int) + 1) = ((i + 1 : Nat) : Int) := by rw [wrap_i64 (by omega) (by omega)]; omega
  cases hc : cmpA (W.drop i) with
  | some q =>
    obtain ⟨a, o, b, q⟩ := q
    rw [termE_cmp hc]
    rw [cmpA_drop] at hc
    have c : i + 2 < W.length := by
      by_cases c : i + 2 < W.length
      · exact c
      · rw [dif_neg c] at hc; cases hc
    rw [dif_pos c] at hc
    have w2 : IntKind.i64.wrap ((i : Int) + 2) = ((i + 2 : Nat) : Int) := by rw [wrap_i64 (by omega) (by omega)]; omega
    have w3 : IntKind.i64.wrap ((i : Int) + 3) = ((i + 3 : Nat) : Int) := by rw [wrap_i64 (by omega) (by omega)]; omega
    have ia0 := WIA hw (i := i) (by omega)
    have ld0 := WLD hw (i := i) (by omega)
    have ia1 := WIA hw (i := i + 1) (by omega)
    have ld1 := WLD hw (i := i + 1) (by omega)
    have ia2 := WIA hw (i := i + 2) (by omega)
    have ld2 := WLD hw (i := i + 2) (by omega)
    have hsa := hsz W[i] (List.getElem_mem _)
    generalize W[i] = xa at ld0 hc hsa
    generalize W[i + 1] = xo at ld1 hc
    generalize W[i + 2] = xb at ld2 hc
    by_cases ho : opN xo = 0
    · rw [if_pos ho] at hc; cases hc
    rw [if_neg ho] at hc
    simp only [Option.some.injEq, Prod.mk.injEq] at hc
    obtain ⟨rfl, rfl, rfl, rfl⟩ := hc
    have fin : ∀ vv, vv = cmpV (opN xo) xa xb → RPost h W (.ok (cmpV (opN xo) xa xb) [xa, xb] (W.drop (i + 3))) (.tuple #[.bool vv, .slice (some ⟨h.length, 0, none⟩) 2 2, .int .i64 ((i + 3 : Nat) : Int), .int .i64 0]) (h ++ [.cells [.string (bs xa), .string (bs xb)] false none]) := fun vv hv =>
      ⟨Same.new _, vv, _, i + 3, 0, rfl, by simp, by simp, rfl, hv, by omega, rfl, ⟨⟨_, _, rfl⟩, by simp [srcA, str], by simp⟩, fun j hj => by obtain ⟨x, n, c, he, rfl⟩ := hj; cases he; simp⟩
    generalize ((i + 1 : Nat) : Int) = z1 at w1 ia1
    generalize ((i + 2 : Nat) : Int) = z2 at w2 ia2
    generalize ((i + 3 : Nat) : Int) = z3 at w3 fin
    by_cases c2 : xo = [33, 61]
    · subst c2
      simp [ia0, ld0, w1, w2, w3, ia1, ld1, ia2, ld2, zeros, capO, cellsOf, spl, -load_ptr]
      exact fin _ (by simp [cmpV, opN])
    by_cases c3 : xo = [126]
    · subst c3
      simp [ia0, ld0, w1, w2, w3, ia1, ld1, ia2, ld2, -load_ptr]
      refine after_call (rmatch_ev xb xa _ hsa) ?_
      rintro r h ⟨rfl, rfl⟩
      simp [w3, zeros, capO, cellsOf, spl, -load_ptr]
      exact fin _ (by simp [cmpV, opN])
    · have c1 : xo = [61, 61] := by
        by_cases c1 : xo = [61, 61]
        · exact c1
        · exact absurd (by simp [opN, c1, c2, c3]) ho
      subst c1
      simp [ia0, ld0, w1, w2, w3, ia1, ld1, ia2, ld2, zeros, capO, cellsOf, spl, -load_ptr]
      exact fin _ (by simp [cmpV, opN])
  | none =>
    by_cases c : i < W.length
    · have c' : ¬ (W.length : Int) ≤ i := by omega
      have ia := WIA hw c
      have ld := WLD hw c
      have hdr := drop1 c
      have wd : IntKind.i64.wrap ((d : Int) + 1) = ((d + 1 : Nat) : Int) := by rw [wrap_i64 (by omega) (by omega)]; omega
      generalize W[i] = x at ld hdr
      rw [hdr] at hc
      have hd2 : ∀ q : Nat, (64 : Int) ≤ (q : Int) ↔ 64 ≤ q := fun q => by omega
      by_cases cn : x = wNot
      · subst cn
        rw [hdr, termE_not hc]
        by_cases c64 : 64 ≤ d
        · have c64' : (64 : Int) ≤ d := by omega
          rw [if_pos c64]
          simp [wl, c', ia, ld, wNot, c64', -load_ptr]
          exact ⟨Same.refl, false, _, i, 65, rfl, by simp, by simp, rfl, rfl⟩
        · have c64' : ¬ (64 : Int) ≤ d := by omega
          rw [if_neg c64]
          generalize hz : ((i + 1 : Nat) : Int) = z1 at w1
          generalize hy : ((d + 1 : Nat) : Int) = y1 at wd
          simp [wl, c', ia, ld, wNot, c64', w1, wd, -load_ptr]
          rw [← hz, ← hy]
          refine after_call (hT (W.length - (i + 1)) (by omega) W (i + 1) hl hsz (by omega) (Nat.le_refl _) h w (d + 1) (by omega) hw) ?_
          rintro r g ⟨s1, v, lv, kk, e, rfl, hcl, hone, hq⟩
          cases ho : termE (d + 1) (W.drop (i + 1)) with
          | bad c0 =>
            rw [ho] at hq
            obtain ⟨rfl, rfl⟩ := hq
            have hc0 := (bads_are _ (W.drop (i + 1)) (Nat.le_refl _)).1 _ _ ho
            have e' : ((e : Int) == 0) = false := by simp; omega
            simp [e']
            exact ⟨s1, false, lv, kk, e, rfl, hcl, hone, rfl, rfl⟩
          | ok v' t rest =>
            rw [ho] at hq
            obtain ⟨rfl, rfl, hkk, rfl, hS, hlv⟩ := hq
            cases v <;> simp
            · exact ⟨s1, true, lv, kk, 0, rfl, hcl, hone, rfl, rfl, hkk, rfl, hS, hlv⟩
            · exact ⟨s1, false, lv, kk, 0, rfl, hcl, hone, rfl, rfl, hkk, rfl, hS, hlv⟩
      · have cn' : ¬ x = [110, 111, 116] := cn
        by_cases co : x = wOpen
        · subst co
          rw [hdr, termE_open hc]
          by_cases c64 : 64 ≤ d
          · have c64' : (64 : Int) ≤ d := by omega
            rw [if_pos c64]
            simp [wl, c', ia, ld, wOpen, c64', -load_ptr]
            exact ⟨Same.refl, false, _, i, 65, rfl, by simp, by simp, rfl, rfl⟩
          · have c64' : ¬ (64 : Int) ≤ d := by omega
            rw [if_neg c64]
            generalize hz : ((i + 1 : Nat) : Int) = z1 at w1
            generalize hy : ((d + 1 : Nat) : Int) = y1 at wd
            simp [wl, c', ia, ld, wOpen, c64', w1, wd, -load_ptr]
            rw [← hz, ← hy]
            refine after_call (rrow_ev (hT (W.length - (i + 1)) (by omega)) W (i + 1) hl hsz (by omega) (Nat.le_refl _) h w (d + 1) (by omega) hw) ?_
            rintro r g ⟨s1, v, lv, kk, e, rfl, hcl, hone, hq⟩
            cases ho : rowE (d + 1) false true (W.drop (i + 1)) with
            | bad c0 =>
              rw [ho] at hq
              obtain ⟨rfl, rfl⟩ := hq
              have hc0 := (bads_are _ (W.drop (i + 1)) (Nat.le_refl _)).2 _ _ _ _ ho
              have e' : ((e : Int) != 0) = true := by simp; omega
              simp [e']
              exact ⟨s1, false, _, kk, e, rfl, by simp, by simp, rfl, rfl⟩
            | ok v' t rest =>
              rw [ho] at hq
              obtain ⟨rfl, rfl, hkk, rfl, hS, hlv⟩ := hq
              have hw2 := hw.same s1
              have wl2 := WL hw2
              by_cases ck : kk < W.length
              · have ck' : ¬ (W.length : Int) ≤ kk := by omega
                have iak := WIA hw2 ck
                have ldk := WLD hw2 ck
                have hdk := drop1 ck
                have wk : IntKind.i64.wrap ((kk : Int) + 1) = ((kk + 1 : Nat) : Int) := by rw [wrap_i64 (by omega) (by omega)]; omega
                generalize W[kk] = y at ldk hdk
                rw [hdk]
                by_cases cs : y = wShut
                · subst cs
                  generalize hz3 : ((kk + 1 : Nat) : Int) = z3 at wk
                  simp [wl2, ck', iak, ldk, wShut, wk, Out.shut, -load_ptr]
                  exact ⟨s1, v, lv, kk + 1, 0, by rw [hz3]; rfl, hcl, hone, rfl, rfl, by omega, rfl, hS, hlv⟩
                · have cs' : ¬ y = [41] := cs
                  simp [wl2, ck', iak, ldk, cs', wShut, Out.shut, -load_ptr]
                  exact ⟨s1, false, _, kk, 4, rfl, by simp, by simp, rfl, rfl⟩
              · have ck' : (W.length : Int) ≤ kk := by omega
                rw [List.drop_of_length_le (by omega)]
                simp [wl2, ck', Out.shut, -load_ptr]
                exact ⟨s1, false, _, kk, 4, rfl, by simp, by simp, rfl, rfl⟩
        · have co' : ¬ x = [40] := co
          rw [hdr, termE_else hc (fun q hq => cn (by cases hq; rfl)) (fun q hq => co (by cases hq; rfl))]
          simp [wl, c', ia, ld, cn', co', -load_ptr]
          exact ⟨Same.refl, false, _, i, 4, rfl, by simp, by simp, rfl, rfl⟩
    · have c' : (W.length : Int) ≤ i := by omega
      rw [List.drop_of_length_le (by omega), termE_else (by rfl) (fun q hq => by cases hq) (fun q hq => by cases hq)]
      simp [wl, c', -load_ptr]
      exact ⟨Same.refl, false, _, i, 4, rfl, by simp, by simp, rfl, rfl⟩
theorem rtermOk : ∀ n, RTerm n := fun n => Nat.strongRecOn n fun _ ih => rterm_ev ih
/-- the document's answer for all words -/
theorem rvalue_ev {h : Hp} {W : List Bs} {w : Value} (hw : SRow h w W) (hl : W.length ≤ 1000000) (hsz : ∀ x ∈ W, x.length < 1000000000) :
    EvA Try.prog 24 [w] (fun r h' => Same h h' ∧ match valueE W with
      | .bad e => r = .tuple #[.bool false, .slice none 0 0, .int .i64 (e : Nat)]
      | .ok v t _ => ∃ lv, r = .tuple #[.bool v, lv, .int .i64 0] ∧ SRow h' lv t ∧ (∀ j, inRow lv j → h.length ≤ j ∧ j < h'.length)) h := by
  refine EvA.body Try.func24 rfl (by kernel_rfl) (by simp) ?_
  apply Run.ok
  simp
  have e0 := rrow_ev (rtermOk W.length) W 0 hl hsz (by omega) (by omega) h w 0 (by omega) hw
  refine after_call e0 ?_
  rintro r g ⟨s1, v, lv, kk, e, rfl, hcl, hone, hq⟩
  rw [List.drop_zero] at hq
  have hw2 := hw.same s1
  have wl2 := WL hw2
  unfold valueE
  cases ho : rowE 0 false true W with
  | bad c0 =>
    rw [ho] at hq
    obtain ⟨rfl, rfl⟩ := hq
    have hc0 := (bads_are _ W (Nat.le_refl _)).2 _ _ _ _ ho
    have e' : ((e : Int) != 0) = true := by simp; omega
    simp [e']
    exact s1
  | ok v' t rest =>
    rw [ho] at hq
    obtain ⟨rfl, rfl, hkk, hre, hS, hlv⟩ := hq
    by_cases ck : kk < W.length
    · have ck' : (kk : Int) < W.length := by omega
      rw [drop1 ck] at hre
      rw [hre]
      simp [wl2, ck', -load_ptr]
      exact s1
    · have ck' : ¬ (kk : Int) < W.length := by omega
      rw [List.drop_of_length_le (by omega)] at hre
      rw [hre]
      simp [wl2, ck', -load_ptr]
      exact ⟨s1, hS, hlv⟩
end Go.Proofs.Ytbamofeocfbjbaa
