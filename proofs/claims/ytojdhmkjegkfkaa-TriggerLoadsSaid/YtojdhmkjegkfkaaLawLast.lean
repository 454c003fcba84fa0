/- The law TriggerLast: called, it comes to true; no condition. -/
import Derived.Test.YtojdhmkjegkfkaaEvC
import Derived.Test.YtojdhmkjegkfkaaWorks29
namespace Go.Proofs.Ytojdhmkjegkfkaa
open Go.Ab
def idOf (x : UInt8) : List UInt8 := [101, 97 + x % 20]
theorem idOf_word (x : UInt8) : wordB (idOf x) = true := by
  have h1 : (97 + x % 20).toNat = 97 + x.toNat % 20 := by
    rw [UInt8.toNat_add, UInt8.toNat_mod]; simp; omega
  unfold wordB idOf
  simp only [List.all_cons, List.all_nil, h1]
  simp; omega
theorem lastStr (h : Hp) (y : UInt8) :
    convA Try.prog 40 9 (.slice (some ⟨h.length, 0, none⟩) 1 1) (h ++ [.cells [.int .u8 (y.toNat : Nat)] false none]) = some (.string (bs [y]), h ++ [.cells [.int .u8 (y.toNat : Nat)] false none]) := by
  have hb : Bytes (h ++ [.cells [.int .u8 (y.toNat : Nat)] false none]) (.slice (some ⟨h.length, 0, none⟩) 1 1) [y] := ⟨⟨_, _, rfl⟩, by simp [srcA, byteV], by simp⟩
  exact Bytes.str (e := 5) hb (by simp) (by simp) (by simp)
theorem lastCat (y : UInt8) : (⟨#[101]⟩ : ByteArray) ++ bs [y] = bs [101, y] := by
  apply ByteArray.ext
  simp [bs]
theorem lastSz : (⟨#[101]⟩ : ByteArray).size = 1 := rfl
set_option maxHeartbeats 1000000 in
set_option maxRecDepth 4000 in
theorem last_ev {h : Hp} {w : Value} {l : List UInt8} (hw : Row h 1 w l.length (l.map byteV)) (hl : l.length ≤ 140737488351232) :
    EvA Try.prog 9 [w] (fun r _ => r = .bool true) h := by
  refine EvA.body Try.func9 rfl (by kernel_rfl) (by simp) ?_
  apply Run.ok
  have hlen := hw.len (P := Try.prog) (t := 40) (e := 5) (by simp)
  simp
  refine after_call (works29_ev _) ?_
  rintro r h' ⟨rfl, rfl⟩
  by_cases c0 : 300 < l.length
  · have c0' : (300 : Int) < l.length := by omega
    simp [hlen, c0']
    refine after_call (works29_ev _) ?_
    rintro r h' ⟨rfl, rfl⟩
    simp
  · have c0' : ¬ (300 : Int) < l.length := by omega
    simp [hlen, c0']
    refine after_call (enew_ev _) ?_
    rintro r h1 ⟨rfl, sm1, m1⟩
    simp
    generalize hK : h'.length = K at m1
    refine WpA.loop (fun k fr g => ∃ i b a v L T, k = l.length - i ∧ i ≤ l.length ∧ fr 0 = w ∧ fr 3 = .pointer (some ⟨b, 0, none⟩) ∧ fr 4 = v ∧ fr 5 = .int .i64 (i : Nat) ∧ Same h' g ∧ EV g h'.length b a L ∧ Acc h'.length g 1 v (List.length T) (T.map str) ∧ (∀ j, inRow v j → j ≠ b ∧ ¬ inRow a j) ∧ L.map Ev.id = last8 T ∧ (L.map Ev.id).Nodup ∧ T.length ≤ i)
      (k := l.length) ⟨0, h'.length, _, _, [], [], by simp, by omega, by simp, by simp [hK], rfl, by simp, sm1, by subst hK; exact m1, Acc.nil _, fun j hj => (by obtain ⟨a, n, c, he, _⟩ := hj; cases he), rfl, by simp, by simp⟩ ?_
    rintro k fr g ⟨i, b, a, v, L, T, rfl, hi, f0, f3, f4, f5, sm, E, A, sep, hL, hnd, hTi⟩
    apply Run.ok
    have hwg := hw.same sm
    have hlg := hwg.len (P := Try.prog) (t := 40) (e := 5) (by simp)
    by_cases c : i < l.length
    · have c' : (i : Int) < l.length := by omega
      have w1 : IntKind.i64.wrap ((i : Int) + 1) = (i : Int) + 1 := wrap_i64 (by omega) (by omega)
      have ia := Row.ia1 (P := Try.prog) (t := 40) (e := 5) hwg (by simp) (by simp) c .i64
      have ld := Row.ld1 (P := Try.prog) (f := 5) hwg (by simp) c
      rw [List.getElem?_map, List.getElem?_eq_getElem c] at ld
      simp only [Option.map_some, byteV] at ld
      generalize l[i] = x at ld
      have hc1 : (97 + x % 20).toNat = 97 + x.toNat % 20 := by
        rw [UInt8.toNat_add, UInt8.toNat_mod]; simp; omega
      have ht : (x.toNat : Int).tmod 20 = ((x.toNat % 20 : Nat) : Int) := by
        rw [Int.tmod_eq_emod_of_nonneg (by omega)]; omega
      have wx : IntKind.u8.wrap (97 + (x.toNat : Int).tmod 20) = ((97 + x % 20).toNat : Int) := by
        rw [hc1, ht, wrap_u8 (by omega) (by omega)]; omega
      have hid : idOf x = [101, 97 + x % 20] := rfl
      have hwd := idOf_word x
      generalize 97 + x % 20 = y at wx hid
      have hst := lastStr g y
      have lT := A.row.len (P := Try.prog) (t := 23) (e := 9) (by simp)
      have Sm2 : Same g (g ++ [.cells [.int .u8 (y.toNat : Nat)] false none]) := Same.new _
      have A2 := A.same Sm2
      have lT2 := A2.row.len (P := Try.prog) (t := 23) (e := 9) (by simp)
      have ws : IntKind.i64.wrap ((T.length : Int) - 8) = (T.length : Int) - 8 := wrap_i64 (by omega) (by omega)
      simp [f0, f3, f4, f5, hlg, c', ia, ld, wx, hst, lastCat, lastSz, lT2, ws, zeros, capO, spl, -load_ptr]
      generalize hg2 : g ++ [Blk.cells [Value.int IntKind.u8 (y.toNat : Nat)] false none] = g2 at A2 lT2 Sm2
      have hq0 : max 0 ((T.length : Int) - 8) = ((T.length - 8 : Nat) : Int) := by omega
      refine WpA.loop (fun k fr g3 => ∃ (q : Nat) (th : Bool), k = T.length - q ∧ q ≤ T.length ∧ T.length - 8 ≤ q ∧ fr 0 = w ∧ fr 3 = .pointer (some ⟨b, 0, none⟩) ∧ fr 4 = v ∧ fr 5 = .int .i64 (i : Nat) ∧ fr 6 = .string (bs [101, y]) ∧ fr 7 = .bool th ∧ fr 8 = .int .i64 (q : Nat) ∧ g3 = g2 ∧ (th = true ↔ [101, y] ∈ (T.take q).drop (T.length - 8)))
        (k := T.length - (T.length - 8)) ⟨T.length - 8, false, rfl, by omega, by omega, by simp [f0], by simp [f3], by simp [f4], by simp [f5], by simp, by simp, by simp [hq0], rfl, by simp⟩ ?_
      rintro k fr g3 ⟨q, th, rfl, hq, hq8, f0, f3, f4, f5, f6, f7, f8, rfl, hth⟩
      apply Run.ok
      by_cases cq : q < T.length
      · have cq' : (q : Int) < T.length := by omega
        have w2 : IntKind.i64.wrap ((q : Int) + 1) = (q : Int) + 1 := wrap_i64 (by omega) (by omega)
        have iaq := Row.ia1 (P := Try.prog) (t := 23) (e := 9) A2.row (by simp) (by simp) cq .i64
        have ldq := Row.ld1 (P := Try.prog) (f := 9) A2.row (by simp) cq
        rw [List.getElem?_map, List.getElem?_eq_getElem cq] at ldq
        simp only [Option.map_some, str] at ldq
        have htk : (T.take (q + 1)).drop (T.length - 8) = (T.take q).drop (T.length - 8) ++ [T[q]] := by
          rw [List.take_add_one, List.getElem?_eq_getElem cq, List.drop_append_of_le_length (by simp; omega)]; rfl
        cases th with
        | true =>
          simp [f0, f3, f4, f5, f6, f7, f8, lT2, cq', w2, -roundQ_normal, ↓rq]
          refine stop_intro ⟨T.length - (q + 1), by omega, q + 1, true, rfl, by omega, by omega, by simp [f0], by simp [f3], by simp [f4], by simp [f5], by simp [f6], by simp, by simp, rfl, ?_⟩
          rw [htk]
          simp only [List.mem_append, true_iff]
          exact .inl (hth.1 rfl)
        | false =>
          have hth' : [101, y] ∉ (T.take q).drop (T.length - 8) := fun h => by cases hth.2 h
          by_cases he : T[q] = [101, y]
          · simp [f0, f3, f4, f5, f6, f7, f8, lT2, cq', iaq, ldq, he, w2, -load_ptr, -roundQ_normal, ↓rq]
            refine stop_intro ⟨T.length - (q + 1), by omega, q + 1, true, rfl, by omega, by omega, by simp [f0], by simp [f3], by simp [f4], by simp [f5], by simp [f6], by simp, by simp, rfl, ?_⟩
            rw [htk, he]
            simp
          · simp [f0, f3, f4, f5, f6, f7, f8, lT2, cq', iaq, ldq, he, w2, -load_ptr, -roundQ_normal, ↓rq]
            refine stop_intro ⟨T.length - (q + 1), by omega, q + 1, false, rfl, by omega, by omega, by simp [f0], by simp [f3], by simp [f4], by simp [f5], by simp [f6], by simp, by simp, rfl, ?_⟩
            rw [htk]
            simp only [List.mem_append, List.mem_singleton, Bool.false_eq_true, false_iff]
            rintro (h | h)
            · exact hth' h
            · exact he h.symm
      · have cq' : ¬ (q : Int) < T.length := by omega
        have hqe : q = T.length := by omega
        subst hqe
        rw [List.take_length] at hth
        have E2 := E.same Sm2
        simp [f0, f3, f4, f5, f6, f7, f8, lT2]
        refine after_call (etake_ev [101, y] (by simp) (i : Int) E2 (by have := sm.len; have := Sm2.len; omega)) ?_
        rintro r g4 ⟨rfl, a4, E4, u4, n4⟩
        have hwd' : wordB [101, y] = true := by rw [← hid]; exact hwd
        have hany : L.any (fun x => decide (x.id = [101, y])) = th := by
          have h1 : (L.any (fun x => decide (x.id = [101, y])) = true) ↔ [101, y] ∈ L.map Ev.id := by simp
          rw [hL] at h1
          cases th with
          | true => exact h1.2 (hth.1 rfl)
          | false =>
            cases hA : L.any (fun x => decide (x.id = [101, y])) with
            | false => rfl
            | true => exact (hth.2 (h1.1 hA)).symm
        have hke : takeE L [101, y] (i : Int) = if th then (6, L) else (0, (if L.length = 8 then L.drop 1 else L) ++ [⟨[101, y], (i : Int)⟩]) := by
          simp only [takeE, hwd', hany]
          cases th
          · simp; omega
          · simp; omega
        have hal : ∀ j, inRow a j → j < g3.length := fun j hj => (E2.acc.above j hj).2
        have hvl : ∀ j, inRow v j → h'.length ≤ j ∧ j < g3.length := fun j hj => A2.above j hj
        have A4 := A2.upd u4 (fun j hj h => by
          rcases h with h | h
          · exact (sep j hj).1 h
          · exact (sep j hj).2 h)
        have hsm4 : Same h' g4 := Upd.trans (Same.trans sm Sm2) u4 fun j hj h => by
          rcases h with h | h
          · have := E.above; omega
          · have := (E.acc.above j h).1; omega
        have sep4 : ∀ j, inRow v j → j ≠ b ∧ ¬ inRow a4 j := fun j hj => ⟨(sep j hj).1, fun h => by
          rcases n4 j h with h | h
          · exact (sep j hj).2 h
          · have := (hvl j hj).2; omega⟩
        clear u4 n4
        rw [hke] at E4 ⊢
        cases th
        case' true =>
          simp only [if_true] at E4
          simp [f0, f3, f4, f5, f6, f7, f8]
          generalize hgg : g4 = g6 at E4 A4 hsm4
          obtain ⟨v6, L6, T6, hv6, E6, A6, sep6, hL6, hnd6, hTi6⟩ : ∃ v6 L6 T6, v6 = v ∧ EV g6 h'.length b a4 L6 ∧ Acc h'.length g6 1 v6 (List.length T6) (T6.map str) ∧ (∀ j, inRow v6 j → j ≠ b ∧ ¬ inRow a4 j) ∧ L6.map Ev.id = last8 T6 ∧ (L6.map Ev.id).Nodup ∧ T6.length ≤ i + 1 := ⟨v, L, T, rfl, E4, A4, sep4, hL, hnd, by omega⟩
          subst hv6
        case' false =>
          have hnm : [101, y] ∉ last8 T := fun h => by cases hth.2 h
          simp only [Bool.false_eq_true, if_false] at E4
          have hl8 := last8_take (i : Int) hL hnm hnd
          generalize (if L.length = 8 then L.drop 1 else L) ++ [⟨[101, y], (i : Int)⟩] = L6 at E4 hl8
          have sm5 : Same g4 (g4 ++ [.cells [.string (bs [101, y])] false none]) := Same.new _
          obtain ⟨v5, g5, q5, A5, u5, n5⟩ := appStrs4 (A4.same sm5) (by have := hsm4.len; simp; omega) (SRow.lit g4 [101, y]) (by simp; omega)
          have E5 : EV g5 h'.length b a4 L6 := (E4.same sm5).upd u5 (fun h => (sep4 b h).1 rfl) (fun j hj h => (sep4 j h).2 hj)
          have hsm5 : Same h' g5 := Upd.trans (Same.trans hsm4 sm5) u5 fun j hj h => by have := (hvl j h).1; omega
          have sep5 : ∀ j, inRow v5 j → j ≠ b ∧ ¬ inRow a4 j := fun j hj => by
            rcases n5 j hj with h | h
            · exact sep4 j h
            · have hb4 := hp_lt E4.at_
              simp at h
              exact ⟨by omega, fun h' => by have := (E4.acc.above j h').2; omega⟩
          simp [f0, f3, f4, f5, f6, f7, f8, zeros, capO, spl, q5]
          generalize hgg : g5 = g6 at E5 A5 hsm5
          obtain ⟨v6, T6, hv6, E6, A6, sep6, hL6, hnd6, hTi6⟩ : ∃ v6 T6, v6 = v5 ∧ EV g6 h'.length b a4 L6 ∧ Acc h'.length g6 1 v6 (List.length T6) (T6.map str) ∧ (∀ j, inRow v6 j → j ≠ b ∧ ¬ inRow a4 j) ∧ L6.map Ev.id = last8 T6 ∧ (L6.map Ev.id).Nodup ∧ T6.length ≤ i + 1 := ⟨v5, T ++ [[101, y]], rfl, E5, A5, sep5, hl8.1, hl8.2, by simp; omega⟩
          subst hv6
        all_goals
          refine after_call (elist_ev E6) ?_
          rintro r g7 ⟨A7, s7⟩
          have hLl : L6.length = T6.length - (T6.length - 8) := by
            have := congrArg List.length hL6
            simpa [last8] using this
          have E7 := E6.same s7
          have B7 := A6.same s7
          have sm7 : Same h' g7 := Same.trans (by assumption) s7
          have hl7 := A7.row.len (P := Try.prog) (t := 44) (e := 47) (by simp)
          have lT7 := B7.row.len (P := Try.prog) (t := 23) (e := 9) (by simp)
          have hmin : min (T6.length : Int) 8 = (L6.length : Nat) := by omega
          simp [f0, f3, f4, f5, hl7, lT7, hmin]
          refine WpA.loop (fun k fr g8 => ∃ (q : Nat), k = L6.length - q ∧ q ≤ L6.length ∧ fr 0 = w ∧ fr 3 = .pointer (some ⟨b, 0, none⟩) ∧ fr 4 = v6 ∧ fr 5 = .int .i64 (i : Nat) ∧ fr 10 = r ∧ fr 11 = .int .i64 (q : Nat) ∧ g8 = g7) (k := L6.length) ⟨0, by simp, by omega, by simp [f0], by simp [f3], by simp [f4], by simp [f5], by simp, by simp, rfl⟩ ?_
          rintro k fr g8 ⟨q, rfl, hq, f0, f3, f4, f5, f10, f11, rfl⟩
          apply Run.ok
          by_cases cq : q < L6.length
          · have cq' : (q : Int) < L6.length := by omega
            have w2 : IntKind.i64.wrap ((q : Int) + 1) = (q : Int) + 1 := wrap_i64 (by omega) (by omega)
            have hR : TRow g8 2 r L6 Ev.cells := ⟨A7.row, fun _ _ => rfl⟩
            have iaq := hR.ia (P := Try.prog) (t := 44) (e := 47) (by simp) (by simp) cq .i64
            have ld0 := hR.cell0 (P := Try.prog) (f := 9) (by simp) cq (by omega)
            have ld1 := hR.cell (P := Try.prog) (f := 3) (j := 1) (by simp) cq (by omega)
            simp only [Ev.cells, List.getElem?_cons_succ, List.getElem?_cons_zero, str] at ld0 ld1
            have hJ1 : T6.length - 8 + q < T6.length := by omega
            have hJ2 : T6[T6.length - 8 + q]? = some L6[q].id := by
              have h1 : (L6.map Ev.id)[q]? = (last8 T6)[q]? := by rw [hL6]
              rw [List.getElem?_map, List.getElem?_eq_getElem cq, last8, List.getElem?_drop] at h1
              exact h1.symm
            obtain ⟨J, hJ⟩ : ∃ J : Nat, J = T6.length - 8 + q := ⟨_, rfl⟩
            rw [← hJ] at hJ1 hJ2
            have wA : IntKind.i64.wrap ((T6.length : Int) - L6.length) = (T6.length : Int) - L6.length := wrap_i64 (by omega) (by omega)
            have wB : IntKind.i64.wrap ((T6.length : Int) - L6.length + q) = (J : Int) := by
              rw [wrap_i64 (by omega) (by omega)]; omega
            have iaT := Row.ia1 (P := Try.prog) (t := 23) (e := 9) B7.row (by simp) (by simp) hJ1 .i64
            have ldT := Row.ld1 (P := Try.prog) (f := 9) B7.row (by simp) hJ1
            rw [List.getElem?_map, hJ2] at ldT
            simp only [Option.map_some, str] at ldT
            have hse := seenE_at hnd6 cq
            generalize L6[q] = z at ld0 ld1 ldT hse
            simp [f0, f3, f4, f5, f10, f11, hl7, cq', -load_ptr]
            refine WpA.drawnA [0, 1, 2, 3, 4, 5, 6, 7, 8, 9, 10, 11, 12, 13, 14, 15] [] (by kernel_rfl) (by decide +kernel) (by decide +kernel) ?_
            simp [f0, f3, f4, f5, f10, f11, hl7, lT7, iaq, ld0, iaT, ldT, wA, wB, -load_ptr]
            refine after_call (seen_ev z.id E7) ?_
            rintro r9 g9 ⟨rfl, rfl⟩
            simp [f0, f3, f4, f5, f10, f11, hse, iaq, ld1, w2, -load_ptr, -roundQ_normal, ↓rq]
            refine stop_intro ⟨L6.length - (q + 1), by omega, q + 1, rfl, by omega, by simp [f0], by simp [f3], by simp [f4], by simp [f5], by simp [f10], by simp, rfl⟩
          · have cq' : ¬ (q : Int) < L6.length := by omega
            simp [f0, f3, f4, f5, f10, f11, hl7, cq', w1, -roundQ_normal, ↓rq]
            refine stop_intro ⟨l.length - (i + 1), by omega, i + 1, b, a4, v6, L6, T6, rfl, by omega, by simp [f0], by simp [f3], by simp [f4], by simp, sm7, E7, B7, sep6, hL6, hnd6, hTi6⟩
    · have c' : ¬ (i : Int) < l.length := by omega
      simp [f0, f5, hlg, c']
theorem triggerLast_ev (h : Hp) (vs : List Value) (dts : List Dt) (hr : RepAll Try.prog h 6 [40] vs dts) : EvA Try.prog 9 vs (fun r _ => r = .bool true) h := by
  obtain ⟨b, vs, e, ds, rfl, rfl, h2, hr⟩ := hr.cons
  rw [hr.nil]
  obtain ⟨l, l1, l2⟩ := h2.bytes (e := 5) (by simp) (by simp) (by kernel_rfl)
  exact last_ev (l1.row (by simp)) l2
end Go.Proofs.Ytojdhmkjegkfkaa
