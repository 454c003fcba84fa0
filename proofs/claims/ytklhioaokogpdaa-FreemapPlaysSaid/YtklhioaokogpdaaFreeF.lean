/- freemap.Load: what it answers; no condition. -/
import Derived.Test.YtklhioaokogpdaaFreeE
import Derived.Test.YtklhioaokogpdaaPFreeB
namespace Go.Proofs.Ytklhioaokogpdaa
open Go.Ab Go.Free
theorem left_ev (b : Nat) (s : ByteArray) (a : Nat) (h : Hp) (hr : Rdr h b s a) (hs : s.size < 4611686018427387904) : EvA Try.prog 117 [.pointer (some ⟨b, 0, none⟩)] (fun r h' => r = .int .i64 ((s.size - min a s.size : Nat) : Int) ∧ h' = h) h := by
  refine EvA.body Try.func117 rfl (by kernel_rfl) (by simp) ?_
  apply Run.ok
  simp
  refine after_call (rest_ev b s a h hr) ?_
  rintro r h' ⟨rfl, rfl⟩
  simp
theorem rleft_ev (b : Nat) (s : ByteArray) (a : Nat) (h : Hp) (hr : Rdr h b s a) (hs : s.size < 4611686018427387904) : EvA Try.prog 65 [.pointer (some ⟨b, 0, none⟩)] (fun r h' => r = .int .i64 ((s.size - min a s.size : Nat) : Int) ∧ h' = h) h := by
  refine EvA.body Try.func65 rfl (by kernel_rfl) (by simp) ?_
  apply Run.ok
  simp
  refine after_call (left_ev b s a h hr hs) ?_
  rintro r h' ⟨rfl, rfl⟩
  simp
def IsMap (l : List UInt8) (T : List Bool) : Prop := T.length ≤ 32768 ∧ l = enc T.length ++ pk T
theorem IsMap.inj {l : List UInt8} {T U : List Bool} (a : IsMap l T) (b : IsMap l U) : T.length = U.length ∧ pk T = pk U := by
  have h1 : T.length = U.length := IsNum.unique (s := l) ⟨by have := a.1; omega, ⟨_, a.2.symm⟩⟩ ⟨by have := b.1; omega, ⟨_, b.2.symm⟩⟩
  refine ⟨h1, ?_⟩
  have h2 := a.2.symm.trans b.2
  rw [h1] at h2
  exact List.append_cancel_left h2
theorem load_look (l : List UInt8) : (∃ u B, u ≤ 32768 ∧ l = enc u ++ B ∧ rdLook l 0 (.int .i64 0) (cntLook 32768 (l.drop 0)) = (.int .i64 (u : Nat), grps u)) ∨ ((∀ T, ¬ IsMap l T) ∧ rdLook l 0 (.int .i64 0) (cntLook 32768 (l.drop 0)) = (.int .i64 0, l.length + 1)) := by
  simp only [rdLook, cntLook, List.drop_zero, Nat.zero_le, if_true, Nat.zero_add]
  rcases num_cases l with ⟨u, hu, he⟩ | ⟨hno, he⟩
  · by_cases hc : u ≤ 32768
    · obtain ⟨B, hB⟩ := hu.2
      have hw : wth l 32768 = (u, grps u) := by unfold wth; rw [he, if_neg (by simp only; omega)]
      have := grps_pos u
      exact .inl ⟨u, B, hc, hB.symm, by rw [hw, if_neg (by simp only; omega)]⟩
    · have hw : wth l 32768 = (0, 0) := by unfold wth; rw [he, if_pos (by simp only; omega)]
      refine .inr ⟨fun T hT => hc ?_, by rw [hw]; rfl⟩
      have h1 : T.length = u := IsNum.unique (s := l) ⟨by have := hT.1; omega, ⟨_, hT.2.symm⟩⟩ hu
      have := hT.1; omega
  · have hw : wth l 32768 = (0, 0) := by unfold wth; rw [he, if_neg (by simp)]
    exact .inr ⟨fun T hT => hno T.length ⟨by have := hT.1; omega, ⟨_, hT.2.symm⟩⟩, by rw [hw]; rfl⟩
set_option maxHeartbeats 1000000 in
set_option maxRecDepth 4000 in
theorem load_ev {h : Hp} {w : Value} {l : List UInt8} (hw : Sl h 1 w l.length (l.map byteV)) (hl : l.length ≤ 100000000) :
    EvA Try.prog 13 [w] (fun r h' => Same h h' ∧ ((∃ T b v, IsMap l T ∧ r = .tuple #[.pointer (some ⟨b, 0, none⟩), .int .i64 0] ∧ FM h' h.length b v T) ∨ ((∀ T, ¬ IsMap l T) ∧ r = .tuple #[.pointer none, .int .i64 4]))) h := by
  refine EvA.body Try.func13 rfl (by kernel_rfl) (by simp) ?_
  apply Run.ok
  have hsz : (⟨l.toArray⟩ : ByteArray).size = l.length := by simp [ByteArray.size]
  simp
  refine after_call (newReader_ev w l h hw.1) ?_
  rintro r h1 ⟨rfl, rfl⟩
  have R : Rdr (h ++ [.cells [.string ⟨l.toArray⟩, .int .i64 0] false none]) h.length ⟨l.toArray⟩ 0 := by simp [Rdr]
  simp
  refine after_call (count_ev h.length ⟨l.toArray⟩ 0 32768 _ R (by rw [hsz]; omega)) ?_
  rintro r h2 ⟨rfl, R2, u2⟩
  have sm2 : Same h h2 := Upd.trans (Same.new _) u2 fun j hj e => by omega
  simp only at R2 ⊢
  rcases load_look l with ⟨u, B, hu, hlB, hlook⟩ | ⟨hno, hlook⟩
  · rw [hlook] at R2 ⊢
    have hlen : l.length = grps u + B.length := by
      have := congrArg List.length hlB
      rw [List.length_append, enc_length] at this; exact this
    simp
    refine after_call (rok_ev h.length _ (grps u) _ R2) ?_
    rintro r h3 ⟨rfl, rfl⟩
    have hok : decide (grps u ≤ (⟨l.toArray⟩ : ByteArray).size) = true := by rw [hsz]; simp; omega
    rw [hok]
    simp
    refine after_call (rleft_ev h.length _ (grps u) _ R2 (by rw [hsz]; omega)) ?_
    rintro r h4 ⟨rfl, rfl⟩
    rw [hsz, show l.length - min (grps u) l.length = B.length by omega]
    simp
    refine after_call (size_ev (u : Int) (by omega) _) ?_
    rintro r h5 ⟨rfl, rfl⟩
    obtain ⟨q, hq⟩ : ∃ q : Nat, q = (u + 7) / 8 := ⟨_, rfl⟩
    have hqi : ((u : Int) + 7) / 8 = (q : Int) := by omega
    rw [hqi]
    by_cases hB : B.length = q
    · simp [hB]
      refine after_call (size_ev (u : Int) (by omega) _) ?_
      rintro r h6 ⟨rfl, rfl⟩
      rw [hqi]
      have hmk : makeSliceA Try.prog 22 (.int .i64 (q : Int)) (.int .i64 (q : Int)) h6 = some (.slice (some ⟨h6.length, 0, none⟩) q q, h6 ++ [.cells (List.replicate q (.int .u8 0)) false none]) := by
        rw [makeSlice_of (e := 5) (sz := 1) (by_ := 1) (zs := 1) (zero := [.int .u8 0]) (by simp) (by simp) (by simp), if_pos ⟨by omega, by omega, by omega, rfl, by omega⟩]
        simp [zeros_rep]
      simp [hmk]
      generalize hbl : h6.length = bl at hmk
      have hbh : h.length < bl := by have := sm2.len; have := hp_lt R2; omega
      generalize hvb : Value.slice (some ⟨bl, 0, none⟩) q q = vb
      generalize hH7 : h6 ++ [Blk.cells (List.replicate q (.int .u8 0)) false none, Blk.cells [.int .i64 (u : Int), .int .i64 0, vb] false none] = H7
      have s67 : Same h6 H7 := hH7 ▸ Same.new _
      have sm7 := Same.trans sm2 s67
      have hm7 : H7[bl + 1]? = some (.cells [.int .i64 (u : Int), .int .i64 0, vb] false none) := by rw [← hH7, ← hbl]; simp
      have hb7 : H7[bl]? = some (.cells (List.replicate q (.int .u8 0)) false none) := by rw [← hH7, ← hbl]; simp
      have hl7 : H7.length = bl + 2 := by rw [← hH7, ← hbl]; simp
      have hw7 := hw.same sm7
      have hlw := hw7.1.len (P := Try.prog) (t := 22) (e := 5) (by simp)
      obtain ⟨p, hp⟩ : ∃ p : Nat, p = l.length - q := ⟨_, rfl⟩
      have ws : IntKind.i64.wrap ((l.length : Int) - (q : Int)) = (p : Int) := by rw [wrap_i64 (by omega) (by omega)]; omega
      obtain ⟨v2, q1, q2, q3⟩ := Sl.cut (P := Try.prog) (t := 22) (e := 5) (lo := some (.int .i64 (p : Int))) (hi := none) (l := p) (m := l.length) hw7 (by simp) (by simp) (fun c hc => by rw [bnds_l, if_pos (by omega)]; simp) (by omega) (Nat.le_refl _)
      have hsrc : srcA 1 v2 H7 = some (q, B.map byteV) := by
        have h1 := q2.1.2.1
        rw [Nat.mul_one, Nat.mul_one, show l.length - p = q by omega, ← List.map_drop, ← List.map_take] at h1
        rw [h1]
        have h2 : l.drop p = B := by
          rw [hlB, List.drop_append_of_le_length (by rw [enc_length]; omega), show p = (enc u).length by rw [enc_length]; omega, List.drop_length]; rfl
        rw [h2, List.take_of_length_le (by omega)]
      have hcp : ∃ H8, copyA Try.prog 22 vb v2 H7 = some (.int .i64 (q : Int), H8) ∧ Wr h.length H8 1 vb q (B.map byteV) ∧ Upd (· = bl) H7 H8 ∧ H8.length = H7.length := by
        rcases Nat.eq_zero_or_pos q with h0 | h0
        · refine ⟨H7, ?_, ⟨by simp; omega, .inr (.inl ⟨bl, 0, ?_, ?_, h0⟩)⟩, Upd.refl, rfl⟩
          · subst hvb; rw [h0] at hsrc ⊢; simp [copyA, hsrc]
          · subst hvb; rw [h0]
          · simp [capO]
        · have ha : Acc h.length H7 1 vb q (List.replicate q (.int .u8 0)) := by
            subst hvb
            exact Acc.lit (rest := []) (op := none) (by omega) (by rw [List.append_nil]; exact hb7) (by simp) (by simp) (Nat.le_refl _) (by simp [capO]; omega)
          obtain ⟨H8, c1, c2, c3, c4⟩ := ha.copyIn (P := Try.prog) (t := 22) (e := 5) (x := v2) (by simp) (by simp) hsrc (by simp; omega) (by simp [byteV, oneA]) (Nat.le_refl _) h0
          refine ⟨H8, c1, ?_, ?_, c4⟩
          · have := c2.wr
            rw [List.drop_of_length_le (by simp), List.append_nil] at this
            exact this
          · subst hvb; exact c3
      obtain ⟨H8, c1, c2, c3, c4⟩ := hcp
      have lm7 := fun o => load_at (P := Try.prog) (t := 22) (o := o) hm7 (by simp)
      have l2 := lm7 2
      simp only [List.getElem?_cons_succ, List.getElem?_cons_zero] at l2
      refine WpA.drawnA [0, 1, 2, 3, 4, 5, 6, 7, 8, 9, 10, 11] [[], [], [], [], [], [], [], [], [7], [], [], [0, 1, 2, 3, 4, 5, 6, 7, 8, 9, 10]] (by kernel_rfl) (by decide +kernel) (by decide +kernel) ?_
      simp [l2, hlw, -load_ptr]
      refine after_call (size_ev (u : Int) (by omega) _) ?_
      rintro r h9 ⟨rfl, rfl⟩
      rw [hqi]
      have q1' := q1 _ Same.refl
      simp [l2, hlw, ws, q1', c1, -load_ptr]
      have sm8 : Same h H8 := Upd.trans sm7 c3 fun j hj e => by omega
      have hm8 : H8[bl + 1]? = some (.cells [.int .i64 (u : Int), .int .i64 0, vb] false none) := c3.at hm7 (by omega)
      have lm8 := load_at (P := Try.prog) (t := 22) (o := 2) hm8 (by simp)
      simp only [List.getElem?_cons_succ, List.getElem?_cons_zero] at lm8
      obtain ⟨r8, hr8⟩ : ∃ r8 : Nat, r8 = u % 8 := ⟨_, rfl⟩
      obtain ⟨q8, hq8⟩ : ∃ q8 : Nat, q8 = u / 8 := ⟨_, rfl⟩
      have htm : (u : Int).tmod 8 = (r8 : Int) := by rw [Int.tmod_eq_emod_of_nonneg (by omega)]; omega
      have htd : (u : Int) / 8 = (q8 : Int) := by omega
      have wq8 : IntKind.i64.wrap (q8 : Int) = (q8 : Int) := wrap_i64 (by omega) (by omega)
      have hrb : rbl vb = bl := by rw [← hvb]; rfl
      by_cases hbad : 0 < u % 8 ∧ (B.getD (u / 8) 0).toNat / 2 ^ (u % 8) ≠ 0
      · have hr0 : 0 < r8 := by omega
        have hqq : q8 < B.length := by omega
        have ia := Row.ia1 (P := Try.prog) (t := 22) (e := 5) c2.row (by simp) (by simp) (k := q8) (by omega) .i64
        have ld := Row.ld1 (P := Try.prog) (f := 5) c2.row (by simp) (k := q8) (by omega)
        rw [List.getElem?_map, List.getElem?_eq_getElem hqq] at ld
        simp only [Option.map_some, byteV] at ld
        have hno : ∀ T, ¬ IsMap l T := fun T hT => by
          have h1 : T.length = u := IsNum.unique (s := l) ⟨by have := hT.1; omega, ⟨_, hT.2.symm⟩⟩ ⟨by omega, ⟨_, hlB.symm⟩⟩
          have h2 : pk T = B := by
            have := hT.2.symm.trans hlB
            rw [h1] at this
            exact List.append_cancel_left this
          have h3 := pk_top T (by omega)
          rw [h1, h2] at h3
          exact hbad.2 h3
        have hmn : min r8 8 = r8 := by omega
        have hsh : ((B[q8].toNat : Nat) : Int) / 2 ^ r8 = ((B[q8].toNat / 2 ^ r8 : Nat) : Int) := by simp
        have hBd : (B.getD (u / 8) 0).toNat / 2 ^ (u % 8) = B[q8].toNat / 2 ^ r8 := by
          rw [← hr8, ← hq8, List.getD_eq_getElem?_getD, List.getElem?_eq_getElem hqq]; rfl
        rw [hBd] at hbad
        generalize hx : B[q8] = x at ld hsh hbad
        generalize hy : x.toNat / 2 ^ r8 = y at hsh hbad
        have hy0 : ((y : Int) != 0) = true := by simp; exact hbad.2
        simp [htm, htd, hr0, lm8, wq8, ia, ld, hmn, hsh, hy0, -load_ptr]
        exact ⟨sm8, hno⟩
      · have hpk : pk (unpk u B) = B := pk_unpk u B (by omega) (fun hr => by
          rcases Decidable.em ((B.getD (u / 8) 0).toNat / 2 ^ (u % 8) = 0) with h0 | h0
          · exact h0
          · exact absurd ⟨hr, h0⟩ hbad)
        by_cases hr0 : 0 < r8
        case' pos =>
          have hqq : q8 < B.length := by omega
          have ia := Row.ia1 (P := Try.prog) (t := 22) (e := 5) c2.row (by simp) (by simp) (k := q8) (by omega) .i64
          have ld := Row.ld1 (P := Try.prog) (f := 5) c2.row (by simp) (k := q8) (by omega)
          rw [List.getElem?_map, List.getElem?_eq_getElem hqq] at ld
          simp only [Option.map_some, byteV] at ld
          have hmn : min r8 8 = r8 := by omega
          have hsh : ((B[q8].toNat : Nat) : Int) / 2 ^ r8 = ((B[q8].toNat / 2 ^ r8 : Nat) : Int) := by simp
          have hBd : (B.getD (u / 8) 0).toNat / 2 ^ (u % 8) = B[q8].toNat / 2 ^ r8 := by
            rw [← hr8, ← hq8, List.getD_eq_getElem?_getD, List.getElem?_eq_getElem hqq]; rfl
          have hy0 : B[q8].toNat / 2 ^ r8 = 0 := by
            rcases Decidable.em (B[q8].toNat / 2 ^ r8 = 0) with h0 | h0
            · exact h0
            · exact absurd ⟨by omega, by rw [hBd]; exact h0⟩ hbad
          rw [hy0] at hsh
          generalize hx : B[q8] = x at ld hsh
          simp [htm, htd, hr0, lm8, wq8, ia, ld, hmn, hsh, -load_ptr]
        case' neg =>
          simp [htm, htd, hr0, -load_ptr]
        all_goals
          have lB8 := c2.row.len (P := Try.prog) (t := 22) (e := 5) (by simp)
          simp [lm8, lB8, -load_ptr]
          refine WpA.loop (fun k fr g => ∃ i, k = q - i ∧ i ≤ q ∧ fr 6 = .pointer (some ⟨bl + 1, 0, none⟩) ∧ fr 61 = vb ∧ fr 62 = .int .i64 (q : Nat) ∧ fr 63 = .int .i64 (i : Nat) ∧ Same h g ∧ g[bl + 1]? = some (.cells [.int .i64 (u : Int), .int .i64 (onesTo B i : Nat), vb] false none) ∧ Wr h.length g 1 vb q (B.map byteV))
            (k := q) ⟨0, by simp, by omega, by simp, by simp, by simp, by simp, sm8, by rw [onesTo_zero]; exact hm8, c2⟩ ?_
          rintro k fr g ⟨i, rfl, hi, f6, f61, f62, f63, smg, hmg, hbg⟩
          apply Run.ok
          by_cases ci : i < q
          · have ci' : (i : Int) < q := by omega
            have hiB : i < B.length := by omega
            have w1 : IntKind.i64.wrap ((i : Int) + 1) = (i : Int) + 1 := wrap_i64 (by omega) (by omega)
            have ia := Row.ia1 (P := Try.prog) (t := 22) (e := 5) hbg.row (by simp) (by simp) ci .i64
            have ld := Row.ld1 (P := Try.prog) (f := 5) hbg.row (by simp) ci
            rw [List.getElem?_map, List.getElem?_eq_getElem hiB] at ld
            simp only [Option.map_some, byteV] at ld
            have hos := onesTo_succ B i hiB
            have hol := onesTo_le B (i + 1)
            have l1 := load_at (P := Try.prog) (t := 3) (o := 1) hmg (by simp)
            simp only [List.getElem?_cons_succ, List.getElem?_cons_zero] at l1
            have wo : IntKind.i64.wrap ((onesTo B i : Int) + (ones B[i].toNat : Int)) = (onesTo B (i + 1) : Nat) := by
              rw [wrap_i64 (by omega) (by omega)]; omega
            have hst : storeA Try.prog 3 (.pointer (some ⟨bl + 1, 1, none⟩)) (.int .i64 (onesTo B (i + 1) : Nat)) g = some (g.set (bl + 1) (.cells [.int .i64 (u : Int), .int .i64 (onesTo B (i + 1) : Nat), vb] false none)) := by
              simp only [storeA, hmg]; simp [cellsOf, oneA, spl]
            have hxl := (B[i]).toNat_lt
            generalize hx : B[i] = x at ld wo hxl
            simp [f6, f61, f62, f63, ci', ia, ld, -load_ptr, -store_ptr]
            refine WpA.drawnA [0, 1, 2, 3, 4, 5, 6, 7, 8, 9] [[], [], [], [], [], [4], [], [], [], [0, 1, 2, 3, 4, 5, 6, 7, 8]] (by kernel_rfl) (by decide +kernel) (by decide +kernel) ?_
            simp [f6, f61, f62, f63, l1, -load_ptr, -store_ptr]
            refine after_call (ones_ev x.toNat hxl _) ?_
            rintro r g2 ⟨rfl, rfl⟩
            simp [f6, f61, f62, f63, l1, wo, hst, w1, -load_ptr, -store_ptr, -roundQ_normal, ↓rq]
            refine stop_intro ⟨q - (i + 1), by omega, i + 1, rfl, by omega, by simp [f6], by simp [f61], by simp [f62], by simp, Upd.trans smg (Upd.set (S := (· = bl + 1)) rfl _) (fun j hj e => by omega), List.getElem?_set_self (hp_lt hmg), hbg.upd (Upd.set (S := (· = bl + 1)) rfl _) (fun j hj e => by
              have := inRow_rbl hj
              omega)⟩
          · have ci' : ¬ (i : Int) < q := by omega
            have hiq : i = q := by omega
            subst hiq
            simp [f6, f61, f62, f63]
            refine ⟨smg, unpk u B, ⟨by simp; omega, by rw [unpk_length, hpk]; exact hlB⟩, vb, ?_⟩
            have hc : cnt (unpk u B) = onesTo B i := by rw [← onesTo_all, hpk, hB]
            refine FM.mk (by rw [unpk_length, hc]; exact hmg) (by omega) ?_ (by simp; omega) (fun _ => by omega) (fun h0 => .inr ⟨bl, i, ?_, by simp [capO]; omega⟩)
            · rw [hpk, hB]; exact hbg
            · rw [hpk, hB] at h0; rw [← hvb, h0]
    · have hB' : ((B.length : Int) != (q : Int)) = true := by simp; omega
      simp [hB']
      refine ⟨sm2, fun T hT => hB ?_⟩
      have h1 : T.length = u := IsNum.unique (s := l) ⟨by have := hT.1; omega, ⟨_, hT.2.symm⟩⟩ ⟨by omega, ⟨_, hlB.symm⟩⟩
      have h2 := congrArg List.length hT.2
      rw [List.length_append, enc_length, h1, pk_length, h1] at h2
      omega
  · rw [hlook] at R2 ⊢
    simp
    refine after_call (rok_ev h.length _ (l.length + 1) _ R2) ?_
    rintro r h3 ⟨rfl, rfl⟩
    have hok : decide (l.length + 1 ≤ (⟨l.toArray⟩ : ByteArray).size) = false := by rw [hsz]; simp
    rw [hok]
    simp
    exact ⟨sm2, hno⟩
end Go.Proofs.Ytklhioaokogpdaa
