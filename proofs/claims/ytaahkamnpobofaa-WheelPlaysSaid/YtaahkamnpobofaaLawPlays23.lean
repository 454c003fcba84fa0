/- The law WheelPlays: called, it comes to true; no condition. -/
import Derived.Test.YtaahkamnpobofaaWheelK
import Derived.Test.YtaahkamnpobofaaRWheelB
import Derived.Test.YtaahkamnpobofaaInts05
namespace Go.Proofs.Ytaahkamnpobofaa
open Go.Ab
/-- a step: what is done, a key, a time -/
structure St3 where
  k : Int
  q : Int
  n : Int
def St3.cells (s : St3) : List Value := [.int .i64 s.k, .int .i64 s.q, .int .i64 s.n]
abbrev SRow3 (h : Hp) (v : Value) (l : List St3) : Prop := TRow h 3 v l St3.cells
theorem cutR {P : Program} {n : Nat} {C : Code} {Q : QA} {F : Fr → Hp → Prop} {G : Prop} (main : (∀ fr g, F fr g → Run P n C Q fr g) → G) (key : ∀ fr g, F fr g → Run P n C Q fr g) : G := main key
section
variable {h g : Hp} {v : Value} {l : List St3} {i : Nat}
theorem S3Len (hv : SRow3 h v l) : lenA Try.prog 58 v h = some (.int .i64 (l.length : Nat)) := hv.len (e := 64) (by simp)
theorem S3IA (hv : SRow3 h v l) (hi : i < l.length) : indexAddrA Try.prog 58 v (.int .i64 (i : Nat)) = some (.pointer (some ⟨rbl v, rof v + i * 3, none⟩)) := hv.ia (e := 64) (by simp) (by simp) hi .i64
theorem S3AG (hv : SRow3 h v l) (hi : i < l.length) : loadA Try.prog 64 (.pointer (some ⟨rbl v, rof v + i * 3, none⟩)) h = some (.agg #[.int .i64 l[i].k, .int .i64 l[i].q, .int .i64 l[i].n]) := hv.agg (by simp) (by simp) hi
end
theorem Ow.down {k j z n : Nat} {h : Hp} {v : Value} {xs : List Value} (hj : j ≤ k) (a : Ow k h z v n xs) : Ow j h z v n xs := by
  obtain ⟨hl, h1 | ⟨b, rfl, rfl, hk, hb⟩ | ⟨b, c, rest, op, rfl, hk, hB, hc⟩⟩ := a
  · exact ⟨hl, .inl h1⟩
  · exact ⟨hl, .inr (.inl ⟨b, rfl, rfl, by omega, hb⟩)⟩
  · exact ⟨hl, .inr (.inr ⟨b, c, rest, op, rfl, by omega, hB, hc⟩)⟩
theorem WM.down {k j d b : Nat} {h : Hp} {v : Value} {H : List Th} {M : List (Int × Int)} (m : WM h k d b v H M) (hj : j ≤ k) : WM h j d b v H M :=
  ⟨m.at_, Ow.down hj m.to, m.mp, m.nd, m.db, by have := m.kd; omega, by have := m.kb; omega⟩
theorem findK_some {H : List Th} {M : List (Int × Int)} {L : List Th} (w : WOk H M L) (q : Int) : (lk q M).isSome = (findK q L).isSome := by
  have := findK_lk w q
  cases hf : findK q L <;> rw [hf] at this <;> simp [whenV] at this <;> simp [this]
theorem whenV_is (o : Option Th) : ∃ (a : Int) (b : Bool), whenV o = .tuple #[.int .i64 a, .bool b] := by cases o <;> exact ⟨_, _, rfl⟩
theorem nextV_is (L : List Th) : ∃ (a : Int) (b : Bool), nextV L = .tuple #[.int .i64 a, .bool b] := by cases L <;> exact ⟨_, _, rfl⟩
/-- the wheel, and the document's -/
structure PS (h : Hp) (B d d2 : Nat) (L : List Th) (g : Hp) : Prop where
  ex : ∃ b v H M v2, WM g h.length d b v H M ∧ WOk H M L ∧ H.length ≤ B ∧ RWM g h.length d2 v2 L ∧ (d2 ≠ d ∧ d2 ≠ b ∧ ∀ j, inRow v j → j ≠ d2) ∧ ∀ j, inRow v2 j → j ≠ d ∧ j ≠ b ∧ ¬ inRow v j
  len : L.length ≤ B
  sm : Same h g
inductive PlI (h : Hp) (d2 : Nat) (u : Value) (l : List St3) (z : Nat) (fr : Fr) (g : Hp) : Prop
  | mk (i d : Nat) (L : List Th) (hz : z = l.length - i) (hi : i ≤ l.length) (f0 : fr 0 = u) (f3 : fr 3 = .pointer (some ⟨d, 0, none⟩)) (f4 : fr 4 = .pointer (some ⟨d2, 0, none⟩)) (f5 : fr 5 = .int .i64 (i : Nat)) (s : PS h i d d2 L g)
inductive PlF (h : Hp) (d2 c : Nat) (u : Value) (i : Nat) (s : St3) (fr : Fr) (g : Hp) : Prop
  | mk (d : Nat) (L : List Th) (f0 : fr 0 = u) (f3 : fr 3 = .pointer (some ⟨d, 0, none⟩)) (f4 : fr 4 = .pointer (some ⟨d2, 0, none⟩)) (f5 : fr 5 = .int .i64 (i : Nat)) (f6 : fr 6 = .pointer (some ⟨c, 0, none⟩)) (ps : PS h (i + 1) d d2 L g)
    (hc : g[c]? = some (.cells s.cells false none)) (nc : c ≠ d ∧ c ≠ d2)
inductive PlO (g0 : Hp) (d d2 c k : Nat) (u w : Value) (i n : Nat) (z : Nat) (fr : Fr) (g : Hp) : Prop
  | mk (j : Nat) (ys : List Value) (hz : z = n - j) (hj : j ≤ n) (f0 : fr 0 = u) (f3 : fr 3 = .pointer (some ⟨d, 0, none⟩)) (f4 : fr 4 = .pointer (some ⟨d2, 0, none⟩)) (f5 : fr 5 = .int .i64 (i : Nat)) (f6 : fr 6 = .pointer (some ⟨c, 0, none⟩)) (f7 : fr 7 = w) (f8 : fr 8 = .int .i64 (j : Nat))
    (W : Wr k g 1 w n ys) (up : Upd (fun j => k ≤ j) g0 g)
set_option maxHeartbeats 16000000 in
set_option maxRecDepth 10000 in
theorem plays23_ev {h : Hp} {u : Value} {l : List St3} (hu : SRow3 h u l) : EvA Try.prog 7 [u] (fun r _ => r = .bool true) h := by
  refine EvA.body Try.func7 rfl (by kernel_rfl) (by simp) ?_
  apply Run.ok
  have tu := S3Len hu
  by_cases c0 : 200 < l.length
  · have c0' : (200 : Int) < l.length := by omega
    simp [tu, c0']
  have c0' : ¬ (200 : Int) < l.length := by omega
  simp [tu, c0']
  refine after_call (newW_ev _) ?_
  rintro r g0 ⟨rfl, m0, s0⟩
  have hlt0 := m0.lt
  have sn : Same g0 (g0 ++ [Blk.cells [.slice none 0 0] false none]) := Same.new _
  simp [zeros]
  refine WpA.loop (PlI h g0.length u l) (k := l.length) ⟨0, h.length + 1, [], by simp, by omega, by simp, by simp, by simp, by simp, ⟨⟨h.length, .slice none 0 0, [], [], .slice none 0 0, m0.same sn, WOk.nil, by simp, ⟨by simp, (Acc.nil (z := 2) 0).sl, fun j hj => (by obtain ⟨a, n, c, he, _⟩ := hj; cases he), by omega⟩, ⟨by omega, by omega, fun j hj => (by obtain ⟨a, n, c, he, _⟩ := hj; cases he)⟩, fun j hj => (by obtain ⟨a, n, c, he, _⟩ := hj; cases he)⟩, by simp, s0.trans sn⟩⟩ ?_
  generalize g0.length = d2
  clear m0 s0 hlt0 sn
  rintro z fr gA ⟨i, d, L, rfl, hi, f0, f3, f4, f5, s⟩
  apply Run.ok
  have tuA := S3Len (hu.same s.sm)
  by_cases c : i < l.length
  · have c' : (i : Int) < l.length := by omega
    have w1 : IntKind.i64.wrap ((i : Int) + 1) = (i : Int) + 1 := wrap_i64 (by omega) (by omega)
    have ia := S3IA (hu.same s.sm) c
    have ag := S3AG (hu.same s.sm) c
    generalize l[i] = st at ag
    obtain ⟨cc, hcc⟩ : ∃ cc, cc = gA.length := ⟨_, rfl⟩
    have sn : Same gA (gA ++ [Blk.cells st.cells false none]) := Same.new _
    have hn : (gA ++ [Blk.cells st.cells false none])[gA.length]? = some (Blk.cells st.cells false none) := by simp
    obtain ⟨gB, hB⟩ : ∃ gB, gB = gA ++ [Blk.cells st.cells false none] := ⟨_, rfl⟩
    rw [← hB] at sn hn
    have hB' : gA ++ [Blk.cells [.int .i64 st.k, .int .i64 st.q, .int .i64 st.n] false none] = gB := hB.symm
    have hBl : gB.length = gA.length + 1 := by rw [hB]; simp
    rw [← hcc] at hn
    have lds : ∀ {gx : Hp}, gx[cc]? = some (Blk.cells st.cells false none) → loadA Try.prog 3 (.pointer (some ⟨cc, 0, none⟩)) gx = some (.int .i64 st.k) ∧ loadA Try.prog 3 (.pointer (some ⟨cc, 1, none⟩)) gx = some (.int .i64 st.q) ∧ loadA Try.prog 3 (.pointer (some ⟨cc, 2, none⟩)) gx = some (.int .i64 st.n) := fun hx => by
      have q0 := load_at (P := Try.prog) (t := 3) (o := 0) hx (by simp)
      have q1 := load_at (P := Try.prog) (t := 3) (o := 1) hx (by simp)
      have q2 := load_at (P := Try.prog) (t := 3) (o := 2) hx (by simp)
      exact ⟨q0, q1, q2⟩
    obtain ⟨k0, k1, k2⟩ := lds hn
    apply cutR (F := PlF h d2 cc u i st)
    · intro key
      obtain ⟨⟨b, v, H, M, v2, m, w, hl, m2, a1, a2⟩, hL, sm⟩ := s
      have hkd := m.kd
      have hkb := m.kb
      have hlt := m.lt
      have hd2 := hp_lt m2.at_
      have hk2 := m2.kd
      have ab := fun j (hj : inRow v j) => m.to.above j hj
      have ab2 := fun j (hj : inRow v2 j) => m2.nd j hj
      have mB := m.same sn
      have mB2 := m2.same sn
      have smB := sm.trans sn
      by_cases e0 : st.k = 0
      · have e0' : (st.k == 0) = true := by simpa using e0
        simp [f0, f3, f5, tuA, c', ia, ag, hB', spl, ← hcc, k0, k1, k2, e0', -load_ptr]
        refine after_call (set_ev mB w (by omega) (by omega) st.q st.n) ?_
        rintro r gC ⟨rfl, v1, H1, M1, mC, wC, uC, nC, lC⟩
        have mC2 := mB2.upd uC (fun e => by rcases e with e | e | e; exact a1.1 e; exact a1.2.1 e; exact a1.2.2 _ e rfl) (fun j hj e => by have := a2 j hj; rcases e with e | e | e; exact this.1 e; exact this.2.1 e; exact this.2.2 e)
        have hnC := uC.at hn (fun e => by rcases e with e | e | e; omega; omega; have := ab _ e; omega)
        have uCl := uC.len
        obtain ⟨k0, k1, k2⟩ := lds hnC
        simp [f4, k1, k2, -load_ptr]
        refine after_call (rset_ev mC2 (by omega) st.q st.n) ?_
        rintro r gD ⟨v2', mD2, uD, nD⟩
        have ab1 := fun j (hj : inRow v1 j) => mC.to.above j hj
        have d2v1 : ∀ j, inRow v1 j → j ≠ d2 := fun j hj => by
          rcases nC j hj with e | e
          · exact a1.2.2 j e
          · omega
        have mD := mC.upd uD (fun e => a1.1 e.symm) (fun e => a1.2.1 e.symm) d2v1
        have hnD := uD.at hnC (by omega)
        have sl := setL_len st.q st.n L
        have smD : Same h gD := Upd.trans (Upd.trans smB uC fun j hj e => by rcases e with e | e | e; omega; omega; have := ab j e; omega) uD fun j hj e => by omega
        simp [-Run_region']
        refine key _ _ ?_
        refine ⟨d, _, by simp [f0], by simp [f3], by simp [f4], by simp [f5], by simp, ⟨⟨b, v1, H1, M1, v2', mD, wC, by omega, mD2, ⟨a1.1, a1.2.1, d2v1⟩, fun j hj => ?_⟩, by omega, smD⟩, hnD, by omega⟩
        rcases nD j hj with e | e
        · have := a2 j e
          have := ab2 j e
          exact ⟨by omega, by omega, fun h1 => by
            rcases nC j h1 with e' | e'
            · exact (a2 j e).2.2 e'
            · omega⟩
        · have := mC.lt
          exact ⟨by omega, by omega, fun h1 => by have := ab1 j h1; omega⟩
      have e0' : (st.k == 0) = false := by simpa using e0
      by_cases e1 : st.k = 1
      · have e1' : (st.k == 1) = true := by simpa using e1
        simp [f0, f5, tuA, c', ia, ag, hB', spl, ← hcc, k0, e0', e1', -load_ptr]
        refine WpA.drawnT [0, 1, 2, 4, 5, 6, 3, 7, 8] [[], [], [], [0, 1, 2], [], [], [], [0, 1, 2, 3, 4, 5, 6]] [[], [], [1], [0, 1, 2], [], [], [5], [0, 1, 2, 3, 4, 5, 6], [0, 1, 2, 3, 4, 5, 6, 7]] (by kernel_rfl) (by decide +kernel) (by decide +kernel) (by decide +kernel) ?_
        simp [f3, f4, k1, -load_ptr]
        refine after_call (clearW_ev mB w st.q) ?_
        rintro r gC ⟨rfl, M1, mC, wC, uC⟩
        have mC2 := mB2.upd uC (fun e => a1.2.1 e) (fun j hj e => (a2 j hj).2.1 e)
        have hnC := uC.at hn (by omega)
        have uCl := uC.len
        obtain ⟨_, k1C, _⟩ := lds hnC
        obtain ⟨ee, hee⟩ : ∃ ee, ee = (if (findK st.q L).isSome = true then (0 : Int) else 5) := ⟨_, rfl⟩
        rw [findK_some w st.q, ← hee]
        simp [k1C, -load_ptr]
        refine after_call (rclear_ev mC2 (by omega) st.q) ?_
        rintro r gD ⟨hr, v2', mD2, uD, nD⟩
        rw [← hee] at hr
        subst hr
        have mD := mC.upd uD (fun e => a1.1 e.symm) (fun e => a1.2.1 e.symm) a1.2.2
        have hnD := uD.at hnC (by omega)
        have hrl := rem_le st.q L
        have smD : Same h gD := Upd.trans (Upd.trans smB uC fun j hj e => by omega) uD fun j hj e => by omega
        obtain ⟨_, k1D, _⟩ := lds hnD
        simp [k1D, -load_ptr, -Run_region']
        refine key _ _ ?_
        refine ⟨d, _, by simp [f0], by simp [f3], by simp [f4], by simp [f5], by simp, ⟨⟨b, v, H, M1, v2', mD, wC, by omega, mD2, a1, fun j hj => ?_⟩, by omega, smD⟩, hnD, by omega⟩
        rcases nD j hj with e | e
        · exact a2 j e
        · have := mC.lt
          exact ⟨by omega, by omega, fun h1 => by have := ab j h1; omega⟩
      have e1' : (st.k == 1) = false := by simpa using e1
      by_cases e2 : st.k = 2
      · have e2' : (st.k == 2) = true := by simpa using e2
        simp [f0, f3, f5, tuA, c', ia, ag, hB', spl, ← hcc, k0, k2, e0', e1', e2', -load_ptr]
        refine after_call (due_ev mB w (by omega) (by omega) st.n) ?_
        rintro ov gC ⟨O, v1, H1, M1, mC, wC, uC, nC, lC⟩
        have mC2 := mB2.upd uC (fun e => by rcases e with e | e | e; exact a1.1 e; exact a1.2.1 e; exact a1.2.2 _ e rfl) (fun j hj e => by have := a2 j hj; rcases e with e | e | e; exact this.1 e; exact this.2.1 e; exact this.2.2 e)
        have hnC := uC.at hn (fun e => by rcases e with e | e | e; omega; omega; have := ab _ e; omega)
        have uCl := uC.len
        obtain ⟨k0, k1, k2⟩ := lds hnC
        simp [f4, k2, -load_ptr]
        refine after_call (rdue_ev mC2 (by omega) st.n) ?_
        rintro ov2 gD ⟨O2, v2', mD2, uD, nD⟩
        have d2v1 : ∀ j, inRow v1 j → j ≠ d2 := fun j hj => a1.2.2 j (nC j hj)
        have mD := mC.upd uD (fun e => a1.1 e.symm) (fun e => a1.2.1 e.symm) d2v1
        have hnD := uD.at hnC (by omega)
        have smD : Same h gD := Upd.trans (Upd.trans smB uC fun j hj e => by rcases e with e | e | e; omega; omega; have := ab j e; omega) uD fun j hj e => by omega
        have OD := O.upd uD (fun j hj e => by have := (O.above j hj).1; omega)
        have hkl : (keysT (takeD st.n L)).length = (takeD st.n L).length := by simp [keysT]
        have htl := takeD_len st.n L
        have hdl : (dropD st.n L).length ≤ L.length := (List.dropWhile_sublist _).length_le
        have OD' := OD.row
        have O2' := O2.row
        rw [← hkl] at OD' O2'
        simp
        refine after_call (ints05_ev OD' O2' (by omega)) ?_
        rintro r gE ⟨eE, rfl⟩
        subst eE
        have W := OD.wr
        generalize (takeD st.n L).length = nn at W htl
        simp
        refine WpA.loop (PlO gE d d2 cc gB.length u ov i nn) (k := nn) ⟨0, _, by simp, by omega, by simp [f0], by simp [f3], by simp [f4], by simp [f5], by simp, by simp, by simp, W, Upd.refl⟩ ?_
        clear f0 f3 f4 f5 W k0 k1 k2
        rintro z fr gF ⟨j, ys, rfl, hj, f0, f3, f4, f5, f6, f7, f8, W, up⟩
        apply Run.ok
        have l3 := W.row.len (P := Try.prog) (t := 22) (e := 3) (by simp)
        by_cases cj : j < nn
        · have cj' : (j : Int) < (nn : Nat) := by omega
          have wj : IntKind.i64.wrap ((j : Int) + 1) = (j : Int) + 1 := wrap_i64 (by omega) (by omega)
          have ja := Row.ia1 (P := Try.prog) (t := 22) (e := 3) W.row (by simp) (by simp) cj .i64
          obtain ⟨g4, p1, p2, p3, p4⟩ := W.store1 (P := Try.prog) (e := 3) (x := .int .i64 (-7)) (by simp) rfl cj
          have hab := W.above (by omega)
          simp [f7, f8, l3, cj', ja, p1, wj, -load_ptr, -store_ptr, -roundQ_normal, ↓rq]
          exact stop_intro ⟨nn - (j + 1), by omega, j + 1, _, rfl, by omega, by simp [f0], by simp [f3], by simp [f4], by simp [f5], by simp [f6], by simp [f7], by simp, p2, Upd.trans up p3 fun j hj e => by omega⟩
        · have cj' : ¬ (j : Int) < (nn : Nat) := by omega
          simp [-Run_region']
          rw [Run_region']
          simp [f7, f8, l3, cj', -Run_region']
          have mF := mD.upd up (by omega) (by omega) (fun j hj e => by have := ab j (nC j hj); omega)
          have mF2 := mD2.upd up (by omega) (fun j hj e => by have := ab2 j (nD j hj); omega)
          have hnF := up.at hnD (by omega)
          have smF : Same h gF := Upd.trans smD up fun j hj e => by omega
          refine key _ _ ?_
          exact ⟨d, _, by simp [f0], by simp [f3], by simp [f4], by simp [f5], by simp [f6], ⟨⟨b, v1, H1, M1, v2', mF, wC, by omega, mF2, ⟨a1.1, a1.2.1, d2v1⟩, fun j hj => ⟨(a2 j (nD j hj)).1, (a2 j (nD j hj)).2.1, fun h1 => (a2 j (nD j hj)).2.2 (nC j h1)⟩⟩, by omega, smF⟩, hnF, by omega⟩
      have e2' : (st.k == 2) = false := by simpa using e2
      by_cases e3 : st.k = 3
      · have e3' : (st.k == 3) = true := by simpa using e3
        simp [f0, f3, f5, tuA, c', ia, ag, hB', spl, ← hcc, k0, e0', e1', e2', e3', -load_ptr]
        refine after_call (copy_ev mB (by omega)) ?_
        rintro r gC ⟨d', b', v', rfl, mX, sC⟩
        have mC := mB.same sC
        have mC2 := mB2.same sC
        have hnC := sC.at hn
        have sCl := sC.len
        have hX1 := mX.kd
        have hX2 := mX.kb
        have hX3 := mX.lt
        have abX := fun j (hj : inRow v' j) => mX.to.above j hj
        obtain ⟨k0, k1, k2⟩ := lds hnC
        simp [f3, k1, k2, -load_ptr]
        refine after_call (set_ev mC w (by omega) (by omega) st.q _) ?_
        rintro r gD ⟨rfl, v1, H1, M1, mD, wD, uD, nD, lD⟩
        have ndX : ∀ j, gB.length ≤ j → ¬ (j = d ∨ j = b ∨ inRow v j) := fun j hj e => by rcases e with e | e | e; omega; omega; have := ab j e; omega
        have mXD := mX.upd uD (ndX _ hX1) (ndX _ hX2) (fun j hj => ndX j (abX j hj).1)
        have mD2 := mC2.upd uD (fun e => by rcases e with e | e | e; exact a1.1 e; exact a1.2.1 e; exact a1.2.2 _ e rfl) (fun j hj e => by have := a2 j hj; rcases e with e | e | e; exact this.1 e; exact this.2.1 e; exact this.2.2 e)
        have hnD := uD.at hnC (fun e => by rcases e with e | e | e; omega; omega; have := ab _ e; omega)
        have uDl := uD.len
        have sl := setL_len st.q (IntKind.i64.wrap (st.n + 1)) L
        have smD : Same h gD := Upd.trans (smB.trans sC) uD fun j hj e => by rcases e with e | e | e; omega; omega; have := ab j e; omega
        have old1 : ∀ j, inRow v1 j → inRow v j ∨ gC.length ≤ j := nD
        obtain ⟨k0, k1, k2⟩ := lds hnD
        simp [f3, k2, -load_ptr]
        refine after_call (due_ev mD wD (by omega) (by omega) st.n) ?_
        rintro ov gE ⟨O, v3, H3, M3, mE, wE, uE, nE, lE⟩
        have ndE : ∀ j, gB.length ≤ j → j < gC.length → ¬ (j = d ∨ j = b ∨ inRow v1 j) := fun j hj hj2 e => by
          rcases e with e | e | e
          · omega
          · omega
          · rcases old1 j e with e' | e'
            · have := ab j e'; omega
            · omega
        have mXE := mXD.upd uE (ndE _ hX1 hX3.1) (ndE _ hX2 hX3.2) (fun j hj => ndE j (abX j hj).1 (abX j hj).2)
        have mE2 := mD2.upd uE (fun e => by
          rcases e with e | e | e
          · exact a1.1 e
          · exact a1.2.1 e
          · rcases old1 _ e with e' | e'
            · exact a1.2.2 _ e' rfl
            · omega) (fun j hj e => by
          have h2 := a2 j hj
          have h3 := ab2 j hj
          rcases e with e | e | e
          · exact h2.1 e
          · exact h2.2.1 e
          · rcases old1 _ e with e' | e'
            · exact h2.2.2 e'
            · omega)
        have hnE := uE.at hnD (fun e => by
          rcases e with e | e | e
          · omega
          · omega
          · rcases old1 _ e with e' | e'
            · have := ab _ e'; omega
            · omega)
        have smE : Same h gE := Upd.trans smD uE fun j hj e => by
          rcases e with e | e | e
          · omega
          · omega
          · rcases old1 _ e with e' | e'
            · have := ab _ e'; omega
            · omega
        have uEl := uE.len
        obtain ⟨k0, k1, k2⟩ := lds hnE
        simp [f3, k1, -load_ptr]
        refine after_call (clearW_ev mE wE st.q) ?_
        rintro r gF ⟨rfl, M4, mF, wF, uF⟩
        have mXF := mXE.upd uF (by omega) (by omega) (fun j hj e => by have := abX j hj; omega)
        have mF2 := mE2.upd uF (fun e => a1.2.1 e) (fun j hj e => (a2 j hj).2.1 e)
        have hnF := uF.at hnE (by omega)
        have smF : Same h gF := Upd.trans smE uF fun j hj e => by omega
        simp [-Run_region']
        rw [Run_region']
        simp [-Run_region']
        refine key _ _ ?_
        exact ⟨d', L, by simp [f0], by simp, by simp [f4], by simp [f5], by simp, ⟨⟨b', v', H, M, v2, mXF.down (by omega), w, by omega, mF2, ⟨by omega, by omega, fun j hj => by have := abX j hj; omega⟩, fun j hj => by have := ab2 j hj; exact ⟨by omega, by omega, fun h1 => by have := abX j h1; omega⟩⟩, by omega, smF⟩, hnF, by omega⟩
      have e3' : (st.k == 3) = false := by simpa using e3
      simp [-Run_region']
      rw [Run_region']
      simp [f0, f5, tuA, c', -load_ptr, -Run_region']
      rw [Run_region']
      simp [f0, f5, ia, ag, hB', spl, ← hcc, -load_ptr, -Run_region']
      rw [Run_region']
      simp [k0, -load_ptr, -Run_region']
      rw [Run_region']
      simp [e0', -load_ptr, -Run_region']
      rw [Run_region']
      simp [e1', -load_ptr, -Run_region']
      rw [Run_region']
      simp [e2', -load_ptr, -Run_region']
      rw [Run_region']
      simp [e3', -load_ptr, -Run_region']
      refine key _ _ ?_
      exact ⟨d, L, by simp [f0], by simp [f3], by simp [f4], by simp [f5], by simp, ⟨⟨b, v, H, M, v2, mB, w, by omega, mB2, a1, a2⟩, by omega, smB⟩, hn, by omega⟩
    · clear f0 f3 f4 f5 s k0 k1 k2 hn ag ia tuA hB hB' hBl sn
      rintro fr g1 ⟨d, L, f0, f3, f4, f5, f6, ⟨⟨b, v, H, M, v2, m, w, hl, m2, a1, a2⟩, hL, sm⟩, hc, nc⟩
      have hkd := m.kd
      have hkb := m.kb
      have ab := fun j (hj : inRow v j) => m.to.above j hj
      obtain ⟨k0, k1, k2⟩ := lds hc
      obtain ⟨wa, wb, hwv⟩ := whenV_is (findK st.q L)
      obtain ⟨na, nb, hnv⟩ := nextV_is L
      simp [f3, f6, k1, -load_ptr]
      refine after_call (whenW_ev m st.q) ?_
      rintro r gx ⟨ex, rfl⟩
      subst ex
      rw [findK_lk w st.q, hwv]
      simp [f4, f6, k1, -load_ptr]
      refine after_call (rwhen_ev m2 (by omega) st.q) ?_
      rintro r gy ⟨ey, rfl⟩
      subst ey
      rw [hwv]
      simp [f3, -load_ptr]
      refine after_call (nextW_ev m w (by omega)) ?_
      rintro r g4 ⟨rfl, v4, H4, m4, w4, u4, n4, l4⟩
      have m42 := m2.upd u4 (fun e => by rcases e with e | e; exact a1.1 e; exact a1.2.2 _ e rfl) (fun j hj e => by have := a2 j hj; rcases e with e | e; exact this.1 e; exact this.2.2 e)
      have sm4 : Same h g4 := Upd.trans sm u4 fun j hj e => by rcases e with e | e; omega; have := ab j e; omega
      rw [hnv]
      simp [f4, -load_ptr]
      refine after_call (rnext_ev m42) ?_
      rintro r gz ⟨ez, rfl⟩
      subst ez
      rw [hnv]
      have l0 := m42.l0
      have kl := KLen m42.kr
      simp
      refine WpA.drawnT [0, 1, 2, 3, 4, 5, 6, 7, 8, 9, 10, 11, 12, 13, 14, 15, 16, 17, 18, 19, 21, 22, 23, 24, 25, 20, 26, 27] [[], [], [], [], [], [], [], [], [], [], [], [], [], [], [], [], [], [], [], [], [0, 1, 2, 3, 4, 5, 6, 7, 8, 9, 10, 11, 12, 13, 14, 15, 16, 17, 18, 19]] [[], [], [0, 1], [0, 1, 2], [0, 1, 2, 3], [0, 1, 2, 3], [0, 1, 2, 3, 4, 5], [0, 1, 2, 3, 4, 5, 6], [0, 1, 2, 3, 4, 5, 6, 7], [0, 1, 2, 3, 4, 5, 6, 7, 8], [0, 1, 2, 3, 4, 5, 6, 7, 8], [0, 1, 2, 3, 4, 5, 6, 7, 8, 9, 10], [0, 1, 2, 3, 4, 5, 6, 7, 8, 9, 10, 11], [0, 1, 2, 3, 4, 5, 6, 7, 8, 9, 10, 11, 12], [0, 1, 2, 3, 4, 5, 6, 7, 8, 9, 10, 11, 12, 13], [0, 1, 2, 3, 4, 5, 6, 7, 8, 9, 10, 11, 12, 13], [0, 1, 2, 3, 4, 5, 6, 7, 8, 9, 10, 11, 12, 13, 14, 15], [0, 1, 2, 3, 4, 5, 6, 7, 8, 9, 10, 11, 12, 13, 14, 15, 16], [0, 1, 2, 3, 4, 5, 6, 7, 8, 9, 10, 11, 12, 13, 14, 15, 16, 17], [0, 1, 2, 3, 4, 5, 6, 7, 8, 9, 10, 11, 12, 13, 14, 15, 16, 17, 18], [0, 1, 2, 3, 4, 5, 6, 7, 8, 9, 10, 11, 12, 13, 14, 15, 16, 17, 18, 19], [0, 1, 2, 3, 4, 5, 6, 7, 8, 9, 10, 11, 12, 13, 14, 15, 16, 17, 18], [0, 1, 2, 3, 4, 5, 6, 7, 8, 9, 10, 11, 12, 13, 14, 15, 16, 17, 18, 21], [0, 1, 2, 3, 4, 5, 6, 7, 8, 9, 10, 11, 12, 13, 14, 15, 16, 17, 18, 21, 22], [0, 1, 2, 3, 4, 5, 6, 7, 8, 9, 10, 11, 12, 13, 14, 15, 16, 17, 18, 21, 22, 23], [0, 1, 2, 3, 4, 5, 6, 7, 8, 9, 10, 11, 12, 13, 14, 15, 16, 17, 18, 21, 22, 23, 24], [0, 1, 2, 3, 4, 5, 6, 7, 8, 9, 10, 11, 12, 13, 14, 15, 16, 17, 18, 19, 20, 21, 22, 23, 24, 25], [0, 1, 2, 3, 4, 5, 6, 7, 8, 9, 10, 11, 12, 13, 14, 15, 16, 17, 18, 19, 20, 21, 22, 23, 24, 25, 26]] (by kernel_rfl) (by decide +kernel) (by decide +kernel) (by decide +kernel) ?_
      simp [f3, f4, l0, kl, -load_ptr]
      refine after_call (lenW_ev m4 w4) ?_
      rintro r gw ⟨ew, rfl⟩
      subst ew
      simp [f5, l0, kl, w1, -load_ptr, -roundQ_normal, ↓rq]
      exact stop_intro ⟨l.length - (i + 1), by omega, i + 1, d, L, rfl, by omega, by simp [f0], by simp [f3], by simp [f4], by simp, ⟨⟨b, v4, H4, M, v2, m4, w4, by omega, m42, ⟨a1.1, a1.2.1, fun j hj => a1.2.2 j (n4 j hj)⟩, fun j hj => ⟨(a2 j hj).1, (a2 j hj).2.1, fun h1 => (a2 j hj).2.2 (n4 j h1)⟩⟩, hL, sm4⟩⟩
  · have c' : ¬ (i : Int) < l.length := by omega
    simp [f0, f5, tuA, c']
theorem St3.of {h : Hp} {k : Nat} {x : List Value} {d : Dt} (hx : Rep Try.prog h k 64 x d) : ∃ s : St3, x = s.cells := by
  obtain ⟨k, hf⟩ := hx.struct (by simp; rfl)
  simp only [RepFs] at hf
  obtain ⟨x0, d0, _, rfl, r0, x1, d1, _, rfl, r1, x2, d2, _, rfl, r2, rfl⟩ := hf
  obtain ⟨n0, rfl, _⟩ := r0.int (q := .i64) (by simp)
  obtain ⟨n1, rfl, _⟩ := r1.int (q := .i64) (by simp)
  obtain ⟨n2, rfl, _⟩ := r2.int (q := .i64) (by simp)
  exact ⟨⟨n0, n1, n2⟩, rfl⟩
theorem wheelPlays_ev (h : Hp) (vs : List Value) (dts : List Dt) (hr : RepAll Try.prog h 6 [58] vs dts) : EvA Try.prog 7 vs (fun r _ => r = .bool true) h := by
  obtain ⟨b, vs, e, ds, rfl, rfl, h2, hr⟩ := hr.cons
  rw [hr.nil]
  obtain ⟨m, m1, m2, m3, m4⟩ := h2.slice (e := 64) (z := 3) St3.cells (fun _ => True) (by simp) (by kernel_rfl) (fun k x d _ hx => by obtain ⟨s, e⟩ := St3.of hx; exact ⟨s, e, trivial⟩)
  exact plays23_ev (m1.rows (fun _ _ => rfl) m4)
end Go.Proofs.Ytaahkamnpobofaa
