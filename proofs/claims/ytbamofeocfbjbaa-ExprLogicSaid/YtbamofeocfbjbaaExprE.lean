/- The parser of conditions: a term; no condition. -/
import Derived.Test.YtbamofeocfbjbaaExprD
namespace Go.Proofs.Ytbamofeocfbjbaa
open Go.Ab Go.Glob
section
variable {h h' g : Hp} {pb k d : Nat} {wv tv : Value} {ws ts : List Bs} {S : Nat → Prop}
theorem cmpA_none (h : ¬ ∃ a w b r, ws = a :: w :: b :: r ∧ opN w ≠ 0) : cmpA ws = none := by
  unfold cmpA
  split
  · rename_i a w b r
    rw [if_pos (Decidable.not_not.1 fun hw => h ⟨a, w, b, r, rfl, hw⟩)]
  · rfl
set_option maxHeartbeats 4000000 in
set_option maxRecDepth 6000 in
theorem term_ev (hT : ∀ n, n < ws.length → TermOk n) (m : PS h pb k wv tv ws ts d) :
    EvA Try.prog 82 [.pointer (some ⟨pb, 0, none⟩)] (fun r h' => Post h pb k tv ts d (termE d ws) r h') h := by
  refine EvA.body Try.func82 rfl (by kernel_rfl) (by simp) ?_
  apply Run.ok
  simp [-load_ptr]
  have sA : Same h (h ++ [.cells [.pointer (some ⟨pb, 0, none⟩)] false none]) := Same.new _
  have hb : (h ++ [Blk.cells [.pointer (some ⟨pb, 0, none⟩)] false none])[h.length]? = some (.cells [.pointer (some ⟨pb, 0, none⟩)] false none) := by simp
  have hAl : (h ++ [Blk.cells [.pointer (some ⟨pb, 0, none⟩)] false none]).length = h.length + 1 := by simp
  generalize h ++ [Blk.cells [.pointer (some ⟨pb, 0, none⟩)] false none] = hA at sA hb hAl ⊢
  have MA := m.same sA
  have hkh := m.kh
  have hpk := m.pk
  have htv : ∀ j, inRow tv j → k ≤ j ∧ j < h.length := fun j hj => m.tr.above j hj
  have uA : Upd (fun j => j = pb ∨ inRow tv j) h hA := sA.mono fun _ _ h => h.elim
  have hbg : ∀ {g : Hp}, Upd (fun j => j = pb ∨ inRow tv j) hA g → g[h.length]? = some (.cells [.pointer (some ⟨pb, 0, none⟩)] false none) := fun u => u.at hb fun hin => by
    rcases hin with h1 | h1
    · omega
    · have := (htv _ h1).2; omega
  have lb := boxP hb
  have l0 := MA.l0
  have wl := MA.wl
  by_cases hcm : ∃ a w b r, ws = a :: w :: b :: r ∧ opN w ≠ 0
  · obtain ⟨a, w, b, r, rfl, hw⟩ := hcm
    have hT := 0
    have hcmp : cmpA (a :: w :: b :: r) = some (a, opN w, b, r) := by simp [cmpA, hw]
    rw [termE_cmp hcmp]
    have ia0 : indexAddrA Try.prog 22 wv (.int .i64 0) = some (.pointer (some ⟨rbl wv, rof wv, none⟩)) := MA.ia (i := 0) (by simp)
    have ia1 : indexAddrA Try.prog 22 wv (.int .i64 1) = some (.pointer (some ⟨rbl wv, rof wv + 1, none⟩)) := MA.ia (i := 1) (by simp)
    have ia2 : indexAddrA Try.prog 22 wv (.int .i64 2) = some (.pointer (some ⟨rbl wv, rof wv + 2, none⟩)) := MA.ia (i := 2) (by simp)
    have ld0 : loadA Try.prog 9 (.pointer (some ⟨rbl wv, rof wv, none⟩)) hA = some (.string (bs a)) := MA.ld (i := 0) (by simp)
    have ld1 : loadA Try.prog 9 (.pointer (some ⟨rbl wv, rof wv + 1, none⟩)) hA = some (.string (bs w)) := MA.ld (i := 1) (by simp)
    have ld2 : loadA Try.prog 9 (.pointer (some ⟨rbl wv, rof wv + 2, none⟩)) hA = some (.string (bs b)) := MA.ld (i := 2) (by simp)
    have hsa := m.sz a (by simp)
    have hfew := m.few
    have hon : opN w ≤ 3 := by unfold opN; split <;> (try split) <;> (try split) <;> omega
    obtain ⟨L, hL⟩ : ∃ L, L = (a :: w :: b :: r).length := ⟨_, rfl⟩
    have hL3 : L = r.length + 3 := by rw [hL]; simp
    rw [← hL] at wl hfew
    have c2 : (2 : Int) < L := by omega
    simp [lb, l0, wl, c2, ia1, ld1, -load_ptr]
    refine after_call (operator_ev w _) ?_
    rintro r0 hA ⟨rfl, rfl⟩
    have e' : ((opN w : Int) != 0) = true := by simp; omega
    generalize hop : opN w = o at e' hw hon
    simp [e', -load_ptr]
    -- the comparison's block
    have sB : Same hA (hA ++ [.cells [.int .u8 (o : Nat), .string (bs a), .string (bs b)] false none]) := Same.new _
    have hB : (hA ++ [Blk.cells [.int .u8 (o : Nat), .string (bs a), .string (bs b)] false none])[hA.length]? = some (.cells [.int .u8 (o : Nat), .string (bs a), .string (bs b)] false none) := by simp
    have hBl : (hA ++ [Blk.cells [.int .u8 (o : Nat), .string (bs a), .string (bs b)] false none]).length = hA.length + 1 := by simp
    refine WpA.drawnA [0, 1, 2, 3, 4, 5, 6, 7, 8, 9, 10, 11, 12, 13, 14, 15] [[], [], [], [], [], [], [], [], [], [], [], [], [], [], [], [0, 1, 2, 3, 4, 5, 6, 7, 8, 9, 10, 11, 12, 13, 14]] (by kernel_rfl) (by decide +kernel) (by decide +kernel) ?_
    have sZ : Same hA (hA ++ [.cells [.int .u8 0, .string ⟨#[]⟩, .string ⟨#[]⟩] false none]) := Same.new _
    have MZ := MA.same sZ
    have lbZ := boxP (sZ.at hb)
    have lZ := MZ.l0
    have ldZ0 : loadA Try.prog 9 (.pointer (some ⟨rbl wv, rof wv, none⟩)) (hA ++ [.cells [.int .u8 0, .string ⟨#[]⟩, .string ⟨#[]⟩] false none]) = some (.string (bs a)) := MZ.ld (i := 0) (by simp)
    have ldZ2 : loadA Try.prog 9 (.pointer (some ⟨rbl wv, rof wv + 2, none⟩)) (hA ++ [.cells [.int .u8 0, .string ⟨#[]⟩, .string ⟨#[]⟩] false none]) = some (.string (bs b)) := MZ.ld (i := 2) (by simp)
    simp [lb, l0, ia0, ia2, ld0, ld2, lbZ, lZ, ldZ0, ldZ2, cellsOf, spl, -load_ptr]
    generalize hA ++ [Blk.cells [.int .u8 (o : Nat), .string (bs a), .string (bs b)] false none] = gB at sB hB hBl ⊢
    have MB := MA.same sB
    have lbB := boxP (sB.at hb)
    have lB1 := MB.l1
    have kB1 : ∀ {g : Hp}, g[hA.length]? = some (.cells [.int .u8 (o : Nat), .string (bs a), .string (bs b)] false none) → loadA Try.prog 9 (.pointer (some ⟨hA.length, 1, none⟩)) g = some (.string (bs a)) := fun hg => by rw [load_at hg (by simp)]; rfl
    have kB2 : ∀ {g : Hp}, g[hA.length]? = some (.cells [.int .u8 (o : Nat), .string (bs a), .string (bs b)] false none) → loadA Try.prog 9 (.pointer (some ⟨hA.length, 2, none⟩)) g = some (.string (bs b)) := fun hg => by rw [load_at hg (by simp)]; rfl
    have sC : Same gB (gB ++ [.cells [.string (bs a), .string (bs b)] false none]) := Same.new _
    have hC : SRow (gB ++ [.cells [.string (bs a), .string (bs b)] false none]) (.slice (some ⟨gB.length, 0, none⟩) 2 2) [a, b] := ⟨⟨_, _, rfl⟩, by simp [srcA, str], by simp⟩
    have MC := MB.same sC
    have hCl : (gB ++ [Blk.cells [.string (bs a), .string (bs b)] false none]).length = gB.length + 1 := by simp
    obtain ⟨tv', gD, e4, A4, u4, n4⟩ := appStrs4 (k := k) MC.tr MC.kh hC (by simp; omega)
    have lbC := boxP (sC.at (sB.at hb))
    have lC1 := MC.l1
    have hDpb := u4.at MC.at_ MC.tpb
    have hDb := u4.at (sC.at (sB.at hb)) fun hin => by have := (htv _ hin).2; omega
    have hDc := u4.at (sC.at hB) fun hin => by have := (htv _ hin).2; omega
    have lbD := boxP hDb
    have lD1 : loadA Try.prog 22 (.pointer (some ⟨pb, 1, none⟩)) gD = some tv := by rw [load_at hDpb (by simp)]; rfl
    have hct := (Row.one A4.row).1
    have hot := (Row.one A4.row).2
    have hDl := hp_lt hDpb
    have q4 : storeA Try.prog 22 (.pointer (some ⟨pb, 1, none⟩)) tv' gD = some (gD.set pb (.cells [wv, tv', .int .i64 (d : Nat)] false none)) := by simp [storeA, hDpb, hct, hot, spl]
    have u5 : Upd (· = pb) gD (gD.set pb (.cells [wv, tv', .int .i64 (d : Nat)] false none)) := Upd.set (S := (· = pb)) rfl _
    have hEpb : (gD.set pb (.cells [wv, tv', .int .i64 (d : Nat)] false none))[pb]? = some (.cells [wv, tv', .int .i64 (d : Nat)] false none) := by simp [hDl]
    refine WpA.drawnA [0, 1, 2, 3, 4, 5, 6, 7, 8, 9, 10, 11, 12, 13] [[], [], [], [], [], [], [], [], [], [], [1, 2, 3, 4, 5, 6, 7, 8, 9], [], [], [0, 1, 2, 3, 4, 5, 6, 7, 8, 9, 10, 11, 12]] (by kernel_rfl) (by decide +kernel) (by decide +kernel) ?_
    simp [lbB, lB1, kB1 hB, kB2 hB, lbC, lC1, kB1 (sC.at hB), kB2 (sC.at hB), e4, lbD, lD1, kB1 hDc, kB2 hDc, q4, zeros, capO, cellsOf, spl, -load_ptr, -store_ptr]
    generalize gD.set pb (.cells [wv, tv', .int .i64 (d : Nat)] false none) = gE at u5 hEpb ⊢
    have hpA : pb ≠ hA.length := by omega
    have lbE := boxP (u5.at hDb (by omega))
    have hEc := u5.at hDc (by omega)
    have lE0 : loadA Try.prog 22 (.pointer (some ⟨pb, 0, none⟩)) gE = some wv := by rw [load_at hEpb (by simp)]; rfl
    have wE : SlS gE wv (a :: w :: b :: r) := Sl.upd (Sl.upd MC.wr u4 fun j hj hin => by have := (m.wk j hj).1; have := (htv j hin).1; omega) u5 fun j hj e => (m.wk j hj).2 e
    obtain ⟨wv', s1, s2, s3⟩ := SlS.lo (P := Try.prog) (t := 22) (e := 9) (k := .i64) (m := 3) wE (by simp) (by simp) (by simp)
    have s1' : sliceA Try.prog 22 wv (some (.int .i64 3)) none none gE = some wv' := s1 _ Same.refl
    have hcw := (Row.one s2.1).1
    have how := (Row.one s2.1).2
    have hEl := hp_lt hEpb
    have q6 : storeA Try.prog 22 (.pointer (some ⟨pb, 0, none⟩)) wv' gE = some (gE.set pb (.cells [wv', tv', .int .i64 (d : Nat)] false none)) := by simp [storeA, hEpb, hcw, how, spl]
    have u6 : Upd (· = pb) gE (gE.set pb (.cells [wv', tv', .int .i64 (d : Nat)] false none)) := Upd.set (S := (· = pb)) rfl _
    have hFpb : (gE.set pb (.cells [wv', tv', .int .i64 (d : Nat)] false none))[pb]? = some (.cells [wv', tv', .int .i64 (d : Nat)] false none) := by simp [hEl]
    refine WpA.drawnA [0, 1, 2, 3, 4, 5, 6, 7, 8] [[], [], [], [], [], [], [], [], [0, 1, 2, 3, 4, 5, 6, 7]] (by kernel_rfl) (by decide +kernel) (by decide +kernel) ?_
    simp [lbE, lE0, s1', q6, -load_ptr, -store_ptr]
    generalize gE.set pb (.cells [wv', tv', .int .i64 (d : Nat)] false none) = gF at u6 hFpb ⊢
    have hFc := u6.at hEc (by omega)
    have lF : loadA Try.prog 99 (.pointer (some ⟨hA.length, 0, none⟩)) gF = some (.agg #[.int .u8 (o : Nat), .string (bs a), .string (bs b)]) := by simp [hFc]
    simp [lF, if_cmp, -load_ptr]
    have hD2 := u4.len
    have hE2 := u5.len
    have hF2 := u6.len
    have tvb : ∀ j, inRow tv' j → k ≤ j := fun j hj => (A4.above j hj).1
    have uF : Upd (fun j => j = pb ∨ inRow tv j) h gF := Upd.trans (Upd.trans (Upd.trans (Upd.trans (Upd.trans uA (sB.mono fun _ _ h => h.elim) fun _ _ h => h) (sC.mono fun _ _ h => h.elim) fun _ _ h => h) u4 fun _ _ h => .inr h) u5 fun _ _ h => .inl h) u6 fun _ _ h => .inl h
    refine ⟨.iface 99 (.agg #[.int .u8 (o : Nat), .string (bs a), .string (bs b)]), 0, rfl, by simp, by simp, uF, rfl, wv', tv', ⟨hFpb, ?_, ?_, m.pk, fun j hj => m.wk j (s3 j hj), by omega, fun x hx => m.sz x (by simp [hx]), by simp; omega, m.dl⟩, fun j hj => ?_, ?_⟩
    · exact Sl.upd s2 u6 fun j hj e => (m.wk j (s3 j hj)).2 e
    · exact (A4.upd u5 fun j hj e => by have := tvb j hj; omega).upd u6 fun j hj e => by have := tvb j hj; omega
    · rcases n4 j hj with h1 | h1
      · exact .inl h1
      · exact .inr (by omega)
    · exact .cmp o a b (by omega) hsa
  · have hnone := cmpA_none hcm
    rcases Nat.lt_or_ge 2 ws.length with hlen | hlen
    · obtain ⟨a, w, b, r, hws⟩ : ∃ a w b r, ws = a :: w :: b :: r := by
        match ws, hlen with
        | a :: w :: b :: r, _ => exact ⟨a, w, b, r, rfl⟩
      have hw : opN w = 0 := Decidable.not_not.1 fun hw => hcm ⟨a, w, b, r, hws, hw⟩
      have c2 : (2 : Int) < ws.length := by omega
      have ia1 : indexAddrA Try.prog 22 wv (.int .i64 1) = some (.pointer (some ⟨rbl wv, rof wv + 1, none⟩)) := MA.ia (i := 1) (by omega)
      have ld1 := MA.ld (i := 1) (by omega)
      have hw1 : ws[1]'(by omega) = w := by subst hws; rfl
      rw [hw1] at ld1
      simp [lb, l0, wl, c2, ia1, ld1, -load_ptr]
      refine after_call (operator_ev w _) ?_
      rintro r0 hA ⟨rfl, rfl⟩
      simp [hw, lb, -load_ptr]
      refine after_call (next_ev MA wNot) ?_
      rintro r1 g1 hn
      rcases hn with ⟨q, wv1, hq, rfl, M1, u1⟩ | ⟨hno, rfl, he⟩
      · have u1' : Upd (fun j => j = pb ∨ inRow tv j) hA g1 := u1.mono fun _ _ h => .inl h
        have lb1 := boxP (hbg u1')
        have hql : q.length < ws.length := by rw [hq]; simp
        simp [lb1, -load_ptr]
        refine after_call (deeper_ev M1 104 (.pointer (some ⟨h.length, 0, none⟩)) (fun out => out = (termE (d + 1) q).neg) (fun hd g2 M2 u2 => term1_ev (hT q.length hql) (Nat.le_refl _) M2 (hbg (Upd.trans u1' u2 fun _ _ h => .inl h)))) ?_
        rintro r2 g3 ⟨out, ho, hp⟩
        have hout : out = termE d ws := by
          rw [hq, termE_not (by rw [← hq]; exact hnone)]
          rcases ho with ⟨h64, rfl⟩ | ⟨h64, rfl⟩
          · rw [if_pos h64]
          · rw [if_neg (by omega)]
        rw [hout] at hp
        obtain ⟨x, e, rfl, hrest⟩ := (hp.up u1').up uA
        simp
        exact ⟨x, e, rfl, hrest⟩
      · rw [he]
        simp [lb, -load_ptr]
        refine after_call (next_ev MA wOpen) ?_
        rintro r1 g1 hn
        rcases hn with ⟨q, wv1, hq, rfl, M1, u1⟩ | ⟨hno2, rfl, he2⟩
        · have u1' : Upd (fun j => j = pb ∨ inRow tv j) hA g1 := u1.mono fun _ _ h => .inl h
          have lb1 := boxP (hbg u1')
          have hql : q.length < ws.length := by rw [hq]; simp
          simp [lb1, -load_ptr]
          refine after_call (deeper_ev M1 105 (.pointer (some ⟨h.length, 0, none⟩)) (fun out => out = (rowE (d + 1) false true q).shut) (fun hd g2 M2 u2 => term2_ev (row_ev (hT q.length hql)) (Nat.le_refl _) M2 (hbg (Upd.trans u1' u2 fun _ _ h => .inl h)) ⟨by omega, fun hin => by have := (htv _ hin).2; omega⟩)) ?_
          rintro r2 g3 ⟨out, ho, hp⟩
          have hout : out = termE d ws := by
            rw [hq, termE_open (by rw [← hq]; exact hnone)]
            rcases ho with ⟨h64, rfl⟩ | ⟨h64, rfl⟩
            · rw [if_pos h64]
            · rw [if_neg (by omega)]
          rw [hout] at hp
          obtain ⟨x, e, rfl, hrest⟩ := (hp.up u1').up uA
          simp
          exact ⟨x, e, rfl, hrest⟩
        · rw [he2]
          simp
          rw [termE_else hnone hno hno2]
          exact ⟨.nilIface, 4, rfl, rfl, rfl, uA, rfl, wv, tv, MA.at_⟩
    · have c2 : ¬ (2 : Int) < ws.length := by omega
      simp [lb, l0, wl, c2, -load_ptr]
      refine after_call (next_ev MA wNot) ?_
      rintro r1 g1 hn
      rcases hn with ⟨q, wv1, hq, rfl, M1, u1⟩ | ⟨hno, rfl, he⟩
      · have u1' : Upd (fun j => j = pb ∨ inRow tv j) hA g1 := u1.mono fun _ _ h => .inl h
        have lb1 := boxP (hbg u1')
        have hql : q.length < ws.length := by rw [hq]; simp
        simp [lb1, -load_ptr]
        refine after_call (deeper_ev M1 104 (.pointer (some ⟨h.length, 0, none⟩)) (fun out => out = (termE (d + 1) q).neg) (fun hd g2 M2 u2 => term1_ev (hT q.length hql) (Nat.le_refl _) M2 (hbg (Upd.trans u1' u2 fun _ _ h => .inl h)))) ?_
        rintro r2 g3 ⟨out, ho, hp⟩
        have hout : out = termE d ws := by
          rw [hq, termE_not (by rw [← hq]; exact hnone)]
          rcases ho with ⟨h64, rfl⟩ | ⟨h64, rfl⟩
          · rw [if_pos h64]
          · rw [if_neg (by omega)]
        rw [hout] at hp
        obtain ⟨x, e, rfl, hrest⟩ := (hp.up u1').up uA
        simp
        exact ⟨x, e, rfl, hrest⟩
      · rw [he]
        simp [lb, -load_ptr]
        refine after_call (next_ev MA wOpen) ?_
        rintro r1 g1 hn
        rcases hn with ⟨q, wv1, hq, rfl, M1, u1⟩ | ⟨hno2, rfl, he2⟩
        · have u1' : Upd (fun j => j = pb ∨ inRow tv j) hA g1 := u1.mono fun _ _ h => .inl h
          have lb1 := boxP (hbg u1')
          have hql : q.length < ws.length := by rw [hq]; simp
          simp [lb1, -load_ptr]
          refine after_call (deeper_ev M1 105 (.pointer (some ⟨h.length, 0, none⟩)) (fun out => out = (rowE (d + 1) false true q).shut) (fun hd g2 M2 u2 => term2_ev (row_ev (hT q.length hql)) (Nat.le_refl _) M2 (hbg (Upd.trans u1' u2 fun _ _ h => .inl h)) ⟨by omega, fun hin => by have := (htv _ hin).2; omega⟩)) ?_
          rintro r2 g3 ⟨out, ho, hp⟩
          have hout : out = termE d ws := by
            rw [hq, termE_open (by rw [← hq]; exact hnone)]
            rcases ho with ⟨h64, rfl⟩ | ⟨h64, rfl⟩
            · rw [if_pos h64]
            · rw [if_neg (by omega)]
          rw [hout] at hp
          obtain ⟨x, e, rfl, hrest⟩ := (hp.up u1').up uA
          simp
          exact ⟨x, e, rfl, hrest⟩
        · rw [he2]
          simp
          rw [termE_else hnone hno hno2]
          exact ⟨.nilIface, 4, rfl, rfl, rfl, uA, rfl, wv, tv, MA.at_⟩
end
end Go.Proofs.Ytbamofeocfbjbaa
