/- The document's free map: Load; no condition. -/
import Derived.Test.YtklhioaokogpdaaRef05C
import Derived.Test.YtklhioaokogpdaaLawCounts
namespace Go.Proofs.Ytklhioaokogpdaa
open Go.Ab Go.Free
theorem val_snoc (l : List UInt8) (b : UInt8) : val (l ++ [b]) = val l + (b.toNat % 128) * 128 ^ l.length := by
  induction l with
  | nil => simp [val]
  | cons x l ih =>
    simp only [List.cons_append, val, ih, List.length_cons, Nat.pow_succ]
    rw [Nat.mul_add, ← Nat.add_assoc, Nat.mul_comm 128 (b.toNat % 128 * 128 ^ l.length), Nat.mul_assoc]
/-- how far the count goes, and what it is -/
structure Fin3 (l : List UInt8) (a n : Nat) : Prop where
  n : n = val (l.take a)
  le : a ≤ l.length
  le3 : a ≤ 3
  big : ∀ j, j + 1 < a → 128 ≤ (l.getD j 0).toNat
  fin : a = 3 ∨ a = l.length ∨ (1 ≤ a ∧ (l.getD (a - 1) 0).toNat < 128)
theorem grps3 {N : Nat} (h : N ≤ 32768) : grps N ≤ 3 := by
  by_cases h1 : N < 128
  · rw [grps_small _ h1]; omega
  · rw [grps_div _ (by omega)]
    by_cases h2 : N / 128 < 128
    · rw [grps_small _ h2]; omega
    · rw [grps_div _ (by omega), grps_small _ (by omega)]; omega
theorem Fin3.map {l : List UInt8} {a n : Nat} (f : Fin3 l a n) {T : List Bool} (hT : IsMap l T) : a = grps T.length ∧ n = T.length ∧ l.drop a = pk T := by
  have hp : enc T.length <+: l := ⟨_, hT.2.symm⟩
  obtain ⟨g1, g2, g3⟩ := Grp.at _ l (enc_grp T.length) hp
  rw [enc_length] at g1 g2 g3
  have hG := grps_pos T.length
  have hG3 := grps3 hT.1
  have ha : a = grps T.length := by
    rcases Nat.lt_trichotomy a (grps T.length) with h | h | h
    · rcases f.fin with h1 | h1 | ⟨h1, h2⟩
      · omega
      · omega
      · have := g2 (a - 1) (by omega); omega
    · exact h
    · have := f.big (grps T.length - 1) (by omega)
      omega
  refine ⟨ha, ?_, ?_⟩
  · rw [f.n, ha, hT.2, List.take_left' (by rw [enc_length]), val_enc]
  · rw [ha]
    have : grps T.length = (enc T.length).length := (enc_length _).symm
    rw [this]
    conv => lhs; rw [hT.2]
    rw [List.drop_left]
theorem rmk_new (q : Nat) (hq : q ≤ 32768) (h : Hp) : RM (h ++ [.cells (List.replicate q (.bool false)) false none, .cells [.slice (some ⟨h.length, 0, none⟩) q q] false none]) h.length (h.length + 1) (.slice (some ⟨h.length, 0, none⟩) q q) (List.replicate q false) := by
  refine RM.mk (by simp) (by omega) ?_ (by simp; omega) (fun _ => ?_) (fun h0 => .inr ⟨h.length, q, ?_, ?_⟩)
  · simp only [List.length_replicate, List.map_replicate]
    refine ⟨by simp, .inr (.inr ⟨h.length, q, [], none, rfl, Nat.le_refl _, ?_, .inl ⟨Nat.le_refl _, by simp [capO]; omega⟩⟩)⟩
    simp
  · show h.length ≠ h.length + 1
    omega
  · simp at h0; rw [h0]
  · simp [capO]; omega
theorem unpk_off (u : Nat) (B : List UInt8) (i : Nat) (hi : B.length ≤ i / 8) : (unpk u B).getD i false = false := by
  by_cases h : i < u
  · rw [unpk_get _ _ _ h, List.getD_eq_getElem?_getD, List.getElem?_eq_none hi]; simp
  · rw [List.getD_eq_getElem?_getD, List.getElem?_eq_none (by simp; omega)]; rfl
set_option maxHeartbeats 2000000 in
set_option maxRecDepth 4000 in
theorem rload_ev {h : Hp} {w : Value} {l : List UInt8} (hw : Row h 1 w l.length (l.map byteV)) (hl : l.length ≤ 100000000) :
    EvA Try.prog 14 [w] (fun r h' => Same h h' ∧ ((∃ T b v, IsMap l T ∧ r = .tuple #[.pointer (some ⟨b, 0, none⟩), .int .i64 0] ∧ RM h' h.length b v T) ∨ ((∀ T, ¬ IsMap l T) ∧ r = .tuple #[.pointer none, .int .i64 4]))) h := by
  refine EvA.body Try.func14 rfl (by kernel_rfl) (by simp) ?_
  apply Run.ok
  have lw := hw.len (P := Try.prog) (t := 22) (e := 5) (by simp)
  simp
  refine WpA.loop (fun z fr g => ∃ a n p, z = 3 - a ∧ a ≤ 3 ∧ a ≤ l.length ∧ fr 0 = w ∧ fr 4 = .int .i64 (n : Nat) ∧ fr 5 = .int .i64 (p : Nat) ∧ fr 6 = .int .i64 (a : Nat) ∧ g = h ∧ p = 128 ^ a ∧ n = val (l.take a) ∧ (∀ j, j < a → 128 ≤ (l.getD j 0).toNat))
    (k := 3) ⟨0, 0, 1, by simp, by omega, by omega, by simp, by simp, by simp, by simp, rfl, rfl, rfl, fun j hj => by omega⟩ ?_
  rintro z fr g ⟨a, n, p, rfl, ha, hal, f0, f4, f5, f6, rfl, hp, hn, hb⟩
  apply Run.ok
  by_cases c : a < l.length ∧ a < 3
  case' pos =>
    have c1 : (a : Int) < l.length := by omega
    have c2 : (a : Int) < 3 := by omega
    have ia := Row.ia1 (P := Try.prog) (t := 22) (e := 5) hw (by simp) (by simp) c.1 .i64
    have ld := Row.ld1 (P := Try.prog) (f := 5) hw (by simp) c.1
    rw [List.getElem?_map, List.getElem?_eq_getElem c.1] at ld
    simp only [Option.map_some, byteV] at ld
    have htk : l.take (a + 1) = l.take a ++ [l[a]] := by rw [List.take_add_one, List.getElem?_eq_getElem c.1]; rfl
    have hgd : l.getD a 0 = l[a] := by rw [List.getD_eq_getElem?_getD, List.getElem?_eq_getElem c.1]; rfl
    have hv : val (l.take (a + 1)) = n + (l[a].toNat % 128) * p := by
      rw [htk, val_snoc, ← hn, List.length_take, show min a l.length = a by omega, hp]
    have hnl : n < 128 ^ a := by
      have := val_lt (l.take a)
      rw [← hn, List.length_take, show min a l.length = a by omega] at this; exact this
    have hpl : p ≤ 16384 := by
      rw [hp]
      have : 128 ^ a ≤ 128 ^ 2 := Nat.pow_le_pow_right (by omega) (by omega)
      simpa using this
    rw [← hp] at hnl
    generalize l[a] = x at ld htk hgd hv
    obtain ⟨y, hy⟩ : ∃ y : Nat, y = x.toNat % 128 := ⟨_, rfl⟩
    rw [← hy] at hv
    have hym : y * p ≤ 127 * p := Nat.mul_le_mul_right _ (by omega)
    have htm : (x.toNat : Int).tmod 128 = (y : Int) := by rw [Int.tmod_eq_emod_of_nonneg (by omega)]; omega
    obtain ⟨yp, hyp⟩ : ∃ yp : Nat, yp = y * p := ⟨_, rfl⟩
    rw [← hyp] at hv hym
    obtain ⟨nn, hnn⟩ : ∃ nn : Nat, nn = n + yp := ⟨_, rfl⟩
    obtain ⟨aa, haa⟩ : ∃ aa : Nat, aa = a + 1 := ⟨_, rfl⟩
    obtain ⟨pp, hpp⟩ : ∃ pp : Nat, pp = p * 128 := ⟨_, rfl⟩
    rw [← hnn] at hv
    have wy : IntKind.i64.wrap (y : Int) = (y : Int) := wrap_i64 (by omega) (by omega)
    have wyp : IntKind.i64.wrap ((y : Int) * (p : Int)) = (yp : Int) := by
      rw [show (y : Int) * (p : Int) = (yp : Int) by rw [hyp]; simp, wrap_i64 (by omega) (by omega)]
    have wnn : IntKind.i64.wrap ((n : Int) + (yp : Int)) = (nn : Int) := by rw [wrap_i64 (by omega) (by omega)]; omega
    have wpp : IntKind.i64.wrap ((p : Int) * 128) = (pp : Int) := by rw [wrap_i64 (by omega) (by omega)]; omega
    have waa : IntKind.i64.wrap ((a : Int) + 1) = (aa : Int) := by rw [wrap_i64 (by omega) (by omega)]; omega
    have wab : IntKind.i64.wrap ((aa : Int) - 1) = (a : Int) := by rw [wrap_i64 (by omega) (by omega)]; omega
    have hv' : nn = val (l.take aa) := by rw [haa]; exact hv.symm
    have hpp' : pp = 128 ^ aa := by rw [hpp, hp, haa, Nat.pow_succ]
    rcases Decidable.em (x.toNat < 128) with hx | hx
    case' inl =>
      have fin : Fin3 l aa nn := ⟨hv', by omega, by omega, fun j hj => hb j (by omega), .inr (.inr ⟨by omega, by rw [show aa - 1 = a by omega, hgd]; exact hx⟩)⟩
      have hx' : (x.toNat : Int) < 128 := by omega
      simp [f0, f4, f5, f6, lw, c1, c2, ia, ld, htm, wy, wyp, wnn, wpp, waa, wab, hx', -load_ptr]
      clear hx hx' hb hv hv' hnl hp hpp hpp' hn
    case' inr =>
      have hx' : ¬ (x.toNat : Int) < 128 := by omega
      simp [f0, f4, f5, f6, lw, c1, c2, ia, ld, htm, wy, wyp, wnn, wpp, waa, wab, hx', -load_ptr, -roundQ_normal, ↓rq]
      refine stop_intro ⟨3 - aa, by omega, aa, nn, pp, rfl, by omega, by omega, by simp [f0], by simp, by simp, by simp, rfl, hpp', hv', fun j hj => ?_⟩
      rcases Nat.lt_or_ge j a with h1 | h1
      · exact hb j h1
      · rw [show j = a by omega, hgd]; omega
  case' neg =>
    have fin : Fin3 l a n := ⟨hn, hal, ha, fun j hj => hb j (by omega), by omega⟩
    obtain ⟨nn, aa, hnn, haa⟩ : ∃ nn aa, nn = n ∧ aa = a := ⟨_, _, rfl, rfl⟩
    rw [← hnn, ← haa] at fin
    rw [← hnn] at f4
    rw [← haa] at f6
    have c3 : ¬ (aa : Int) < l.length ∨ ((aa : Int) < l.length ∧ ¬ (aa : Int) < 3) := by omega
    rcases c3 with c1 | ⟨c1, c2⟩
    case' inl => simp [f0, f4, f5, f6, lw, c1, -load_ptr]
    case' inr => simp [f0, f4, f5, f6, lw, c1, c2, -load_ptr]
  all_goals
    by_cases d1 : 32768 < nn
    · have d1' : (32768 : Int) < nn := by omega
      simp [d1']
      exact ⟨Same.refl, fun T hT => by have h1 := (fin.map hT).2.1; have h2 := hT.1; omega⟩
    · have d1' : ¬ (32768 : Int) < nn := by omega
      obtain ⟨q, hq⟩ : ∃ q : Nat, q = (nn + 7) / 8 := ⟨_, rfl⟩
      have hal2 := fin.le3
      have v7 : IntKind.i64.wrap ((nn : Int) + 7) = (nn : Int) + 7 := wrap_i64 (by omega) (by omega)
      have htd : ((nn : Int) + 7).tdiv 8 = (q : Int) := by rw [Int.tdiv_eq_ediv_of_nonneg (by omega)]; omega
      have htd2 : ((nn : Int) + 7) / 8 = (q : Int) := by omega
      have vq : IntKind.i64.wrap (q : Int) = (q : Int) := wrap_i64 (by omega) (by omega)
      obtain ⟨aq, haq⟩ : ∃ aq : Nat, aq = aa + q := ⟨_, rfl⟩
      have vaq : IntKind.i64.wrap ((aa : Int) + (q : Int)) = (aq : Int) := by rw [wrap_i64 (by omega) (by omega)]; omega
      by_cases d2 : aq < l.length
      · have d2' : (aq : Int) < l.length := by omega
        simp [f0, f4, f6, d1', lw, v7, htd, htd2, vq, vaq, d2']
        refine ⟨Same.refl, fun T hT => ?_⟩
        obtain ⟨h1, h2, h3⟩ := fin.map hT
        have h4 := congrArg List.length hT.2
        rw [List.length_append, enc_length, pk_length] at h4
        omega
      · have hmk : makeSliceA Try.prog 31 (.int .i64 (nn : Int)) (.int .i64 (nn : Int)) g = some (.slice (some ⟨g.length, 0, none⟩) nn nn, g ++ [.cells (List.replicate nn (.bool false)) false none]) := by
          rw [makeSlice_of (e := 4) (sz := 1) (by_ := 1) (zs := 1) (zero := [.bool false]) (by simp) (by simp) (by simp), if_pos ⟨by omega, by omega, by omega, rfl, by omega⟩]
          simp [zeros_rep]
        have d2' : ¬ (aq : Int) < l.length := by omega
        simp [f0, f4, f6, d1', lw, v7, htd, htd2, vq, vaq, d2', hmk]
        have R0 := rmk_new nn (by omega) g
        have sm0 : Same g (g ++ [.cells (List.replicate nn (.bool false)) false none, .cells [.slice (some ⟨g.length, 0, none⟩) nn nn] false none]) := Same.new _
        generalize hvv : Value.slice (some ⟨g.length, 0, none⟩) nn nn = v at R0 sm0
        obtain ⟨bb, hbb⟩ : ∃ bb : Nat, bb = g.length + 1 := ⟨_, rfl⟩
        rw [← hbb] at R0 ⊢
        generalize hU : unpk nn (l.drop aa) = U
        have hUl : U.length = nn := by rw [← hU]; simp
        refine WpA.loop (fun z fr g2 => ∃ i T, z = nn - i ∧ i ≤ nn ∧ fr 0 = w ∧ fr 4 = .int .i64 (nn : Nat) ∧ fr 6 = .int .i64 (aa : Nat) ∧ fr 7 = .pointer (some ⟨bb, 0, none⟩) ∧ fr 8 = .int .i64 (i : Nat) ∧ Same g g2 ∧ RM g2 g.length bb v T ∧ List.length T = nn ∧ (∀ j, j < nn → T[j]? = some (if j < i then U.getD j false else false)))
          (k := nn) ⟨0, _, by simp, by omega, by simp [f0], by simp [f4], by simp [f6], by simp [hbb], by simp, sm0, R0, by simp, fun j hj => by simp [hj]⟩ ?_
        clear R0 sm0 hmk f0 f4 f6
        rintro z fr g2 ⟨i, T, rfl, hi, f0, f4, f6, f7, f8, sm, R, hTl, hTj⟩
        apply Run.ok
        have hw2 := hw.same sm
        have lw2 := hw2.len (P := Try.prog) (t := 22) (e := 5) (by simp)
        have l0 := R.l0
        have tl := R.tl
        obtain ⟨i8, hi8⟩ : ∃ i8 : Nat, i8 = i / 8 := ⟨_, rfl⟩
        obtain ⟨m8, hm8⟩ : ∃ m8 : Nat, m8 = i % 8 := ⟨_, rfl⟩
        obtain ⟨ai, hai⟩ : ∃ ai : Nat, ai = aa + i8 := ⟨_, rfl⟩
        have t8 : (i : Int).tdiv 8 = (i8 : Int) := by rw [Int.tdiv_eq_ediv_of_nonneg (by omega)]; omega
        have t8' : (i : Int) / 8 = (i8 : Int) := by omega
        have tm8 : (i : Int).tmod 8 = (m8 : Int) := by rw [Int.tmod_eq_emod_of_nonneg (by omega)]; omega
        have w8 : IntKind.i64.wrap (i8 : Int) = (i8 : Int) := wrap_i64 (by omega) (by omega)
        have wai : IntKind.i64.wrap ((aa : Int) + (i8 : Int)) = (ai : Int) := by rw [wrap_i64 (by omega) (by omega)]; omega
        by_cases e1 : i < nn ∧ ai < l.length
        case' pos =>
          have e2 : (i : Int) < nn := by omega
          have e3 : (ai : Int) < l.length := by omega
          have ia := Row.ia1 (P := Try.prog) (t := 22) (e := 5) hw2 (by simp) (by simp) e1.2 .i64
          have ld := Row.ld1 (P := Try.prog) (f := 5) hw2 (by simp) e1.2
          rw [List.getElem?_map, List.getElem?_eq_getElem e1.2] at ld
          simp only [Option.map_some, byteV] at ld
          have hUi : U.getD i false = (l[ai].toNat / 2 ^ m8 % 2 == 1) := by
            rw [← hU, unpk_get _ _ _ e1.1, List.getD_eq_getElem?_getD, List.getElem?_drop, ← hi8, ← hai, List.getElem?_eq_getElem e1.2, ← hm8]; rfl
          have hxl := (l[ai]).toNat_lt
          generalize l[ai] = xx at ld hUi hxl
          obtain ⟨X, hX⟩ : ∃ X : Nat, X = xx.toNat := ⟨_, rfl⟩
          rw [← hX] at ld hUi hxl
          have wX : IntKind.i64.wrap (X : Int) = (X : Int) := wrap_i64 (by omega) (by omega)
          simp [f0, f4, f6, f7, f8, lw2, t8, t8', w8, wai, e2, e3, ia, ld, wX, -load_ptr]
          refine WpA.loop (fun z fr g3 => ∃ kq yy : Nat, z = m8 - kq ∧ kq ≤ m8 ∧ yy = X / 2 ^ kq ∧ fr 0 = w ∧ fr 4 = .int .i64 (nn : Nat) ∧ fr 6 = .int .i64 (aa : Nat) ∧ fr 7 = .pointer (some ⟨bb, 0, none⟩) ∧ fr 8 = .int .i64 (i : Nat) ∧ fr 9 = .int .i64 (yy : Nat) ∧ fr 10 = .int .i64 (kq : Nat) ∧ g3 = g2)
            (k := m8) ⟨0, X, by simp, by omega, by simp, by simp [f0], by simp [f4], by simp [f6], by simp [f7], by simp [f8], by simp, by simp, rfl⟩ ?_
          clear f0 f4 f6 f7 f8
          rintro z fr g3 ⟨kq, yy, rfl, hkq, hyy, f0, f4, f6, f7, f8, f9, f10, rfl⟩
          apply Run.ok
          have hyl : yy ≤ X := by rw [hyy]; exact Nat.div_le_self _ _
          by_cases e4 : kq < m8
          · have e4' : (kq : Int) < m8 := by omega
            obtain ⟨y2, hy2⟩ : ∃ y2 : Nat, y2 = yy / 2 := ⟨_, rfl⟩
            have ty : (yy : Int).tdiv 2 = (y2 : Int) := by rw [Int.tdiv_eq_ediv_of_nonneg (by omega)]; omega
            have ty' : (yy : Int) / 2 = (y2 : Int) := by omega
            have wy2 : IntKind.i64.wrap (y2 : Int) = (y2 : Int) := wrap_i64 (by omega) (by omega)
            have wk : IntKind.i64.wrap ((kq : Int) + 1) = (kq : Int) + 1 := wrap_i64 (by omega) (by omega)
            simp [f0, f4, f6, f7, f8, f9, f10, tm8, e4', ty, ty', wy2, wk, -load_ptr, -roundQ_normal, ↓rq]
            refine stop_intro ⟨m8 - (kq + 1), by omega, kq + 1, y2, rfl, by omega, by rw [hy2, hyy, Nat.div_div_eq_div_mul, Nat.pow_succ], by simp [f0], by simp [f4], by simp [f6], by simp [f7], by simp [f8], by simp, by simp, rfl⟩
          · have e4' : ¬ (kq : Int) < m8 := by omega
            have hk : kq = m8 := by omega
            have hyU : (yy % 2 == 1) = U.getD i false := by rw [hUi, hyy, hk]
            obtain ⟨rr, hrr⟩ : ∃ rr : Nat, rr = yy % 2 := ⟨_, rfl⟩
            rw [← hrr] at hyU
            have tr : (yy : Int).tmod 2 = (rr : Int) := by rw [Int.tmod_eq_emod_of_nonneg (by omega)]; omega
            have hr1 : ((rr : Int) == 1) = U.getD i false := by rw [← hyU, Bool.eq_iff_iff]; simp; omega
            have hiT : i < T.length := by omega
            have iT := R.ia hiT
            obtain ⟨g4, p1, p2, p3⟩ := R.put hiT (U.getD i false)
            have w1 : IntKind.i64.wrap ((i : Int) + 1) = (i : Int) + 1 := wrap_i64 (by omega) (by omega)
            have sm4 : Same g g4 := Upd.trans sm p3 fun j hj hin => by have := R.lo hin; omega
            generalize hub : U.getD i false = ub at hr1 p1 p2 hyU
            simp [f0, f4, f6, f7, f8, f9, f10, tm8, e4', tr, hr1, l0, iT, p1, w1, -load_ptr, -store_ptr, -roundQ_normal, ↓rq]
            refine stop_intro ⟨nn - (i + 1), by omega, i + 1, _, rfl, by omega, by simp [f0], by simp [f4], by simp [f6], by simp [f7], by simp, sm4, p2, by simpa using hTl, fun j hj => ?_⟩
            rw [List.getElem?_set]
            by_cases e5 : i = j
            · subst e5; rw [if_pos rfl, if_pos hiT, if_pos (by omega), hub]
            · rw [if_neg e5, hTj j hj]
              by_cases e6 : j < i
              · rw [if_pos e6, if_pos (by omega)]
              · rw [if_neg e6, if_neg (by omega)]
        case' neg =>
          have hTU : T = U := by
            apply List.ext_getElem?
            intro j
            by_cases hj : j < nn
            · rw [hTj j hj]
              have hUj : U[j]? = some (U.getD j false) := by rw [List.getD_eq_getElem?_getD, List.getElem?_eq_getElem (by omega)]; rfl
              rw [hUj]
              by_cases e6 : j < i
              · rw [if_pos e6]
              · rw [if_neg e6, ← hU, unpk_off _ _ _ (by rw [List.length_drop]; omega)]
            · rw [List.getElem?_eq_none (by omega), List.getElem?_eq_none (by omega)]
          subst hTU
          have e7 : ¬ (i : Int) < nn ∨ ((i : Int) < nn ∧ ¬ (ai : Int) < l.length) := by omega
          rcases e7 with e2 | ⟨e2, e3⟩
          case' inl => simp [f0, f4, f6, f7, f8, e2, -load_ptr]
          case' inr => simp [f0, f4, f6, f7, f8, lw2, t8, t8', w8, wai, e2, e3, -load_ptr]
          all_goals
            have cw := Bytes.str (P := Try.prog) (t := 22) (u := 9) (e := 5) hw2 (by simp) (by simp) (by simp)
            refine WpA.drawnT [0, 3, 4, 1, 2, 5] [[], [0]] [[], [0], [0, 1], [], [3], [0, 1, 2, 3, 4]] (by kernel_rfl) (by decide +kernel) (by decide +kernel) (by decide +kernel) ?_
            simp [f0, f7, cw]
            refine after_call (rbytes_ev R) ?_
            rintro r g5 ⟨A5, s5⟩
            have c5 := Bytes.str (P := Try.prog) (t := 22) (u := 9) (e := 5) A5.row (by simp) (by simp) (by simp)
            have cw5 := Bytes.str (P := Try.prog) (t := 22) (u := 9) (e := 5) (hw2.same s5) (by simp) (by simp) (by simp)
            have R5 := R.same s5
            by_cases he : enc T.length ++ pk T = l
            · simp [f0, f7, cw5, c5, he]
              exact ⟨Same.trans sm s5, T, ⟨by omega, he.symm⟩, v, R5⟩
            · simp [f0, f7, cw5, c5, he]
              refine ⟨Same.trans sm s5, fun T' hT' => he ?_⟩
              obtain ⟨h1, h2, h3⟩ := fin.map hT'
              have : T = T' := by rw [← hU, h3, h2, unpk_pk]
              rw [this]; exact hT'.2.symm
end Go.Proofs.Ytklhioaokogpdaa
