/- The law FreemapLoads: called, it comes to true; no condition. -/
import Derived.Test.YtklhioaokogpdaaRef05D
namespace Go.Proofs.Ytklhioaokogpdaa
open Go.Ab Go.Free
theorem inv255 : ∀ c : Fin 256, IntKind.u8.wrap (255 - (c.val : Int)) = (((UInt8.ofNat (255 - c.val)).toNat : Nat) : Int) := by decide +kernel
set_option maxHeartbeats 2000000 in
set_option maxRecDepth 4000 in
theorem loads05_ev {h : Hp} {w : Value} {l : List UInt8} (hw : Row h 1 w l.length (l.map byteV)) (hl : l.length ≤ 140737488351232) :
    EvA Try.prog 3 [w] (fun r _ => r = .bool true) h := by
  refine EvA.body Try.func3 rfl (by kernel_rfl) (by simp) ?_
  apply Run.ok
  have hlen := hw.len (P := Try.prog) (t := 22) (e := 5) (by simp)
  by_cases c0 : (300 : Int) < l.length
  · simp [hlen, c0]
  · obtain ⟨v3, h1, e1, A1, s01, n1⟩ := Acc.appendLit (P := Try.prog) (h := h ++ [.cells [] false none]) (z := 1) (k := h.length) (b := h.length) (t := 22) (tx := 22) (e := 5) (by_ := 1) (dx := .slice 5) (Nat.le_refl _) (by simp) (by simp) (by simp) (by simp) rfl (hw.same (Same.new _)).2.1 (by simp) (by omega) (by omega)
    have s1 : Same h h1 := Same.trans (Same.new _) s01
    have hw1 := hw.same s1
    simp [hlen, c0, zeros, capO, e1]
    refine after_call (load_ev A1.sl (by omega)) ?_
    rintro r g1 ⟨sg1, hq⟩
    have hwg := hw1.same sg1
    rcases hq with ⟨T, b, v, hI, rfl, M⟩ | ⟨hno, rfl⟩
    · simp
      refine after_call (rload_ev hwg (by omega)) ?_
      rintro r g2 ⟨sg2, hq2⟩
      rcases hq2 with ⟨T', b', v', hI', rfl, R⟩ | ⟨hno', _⟩
      · have hTT := hI'.eq hI
        subst hTT
        have M2 := M.upd sg2 (fun _ _ h => h)
        have W2 := ((A1.wr).same sg1).same sg2
        have hrv : 0 < l.length → rbl v3 < h1.length := fun h0 => (A1.above (rbl v3) (Row.inRow (k := 0) A1.row h0)).2
        have hg1 := sg1.len
        simp
        refine WpA.loop (fun z fr g => ∃ (i : Nat) (ys : List UInt8), z = l.length - i ∧ i ≤ l.length ∧ fr 0 = w ∧ fr 3 = v3 ∧ fr 4 = .pointer (some ⟨b, 0, none⟩) ∧ fr 6 = .pointer (some ⟨b', 0, none⟩) ∧ fr 8 = .int .i64 (i : Nat) ∧ Same h g ∧ ys.length = l.length ∧ Wr h.length g 1 v3 l.length (ys.map byteV) ∧ FM g h1.length b v T' ∧ RM g g1.length b' v' T')
          (k := l.length) ⟨0, l, by simp, by omega, by simp, by simp, by simp, by simp, by simp, Same.trans (Same.trans s1 sg1) sg2, rfl, W2, M2, R⟩ ?_
        rintro z fr g ⟨i, ys, rfl, hi, f0, f3, f4, f6, f8, sm, hys, W, MM, RR⟩
        apply Run.ok
        have l3 := W.row.len (P := Try.prog) (t := 22) (e := 5) (by simp)
        by_cases c : i < l.length
        · have c' : (i : Int) < l.length := by omega
          have w1 : IntKind.i64.wrap ((i : Int) + 1) = (i : Int) + 1 := wrap_i64 (by omega) (by omega)
          have ciy : i < ys.length := by omega
          have ia := Row.ia1 (P := Try.prog) (t := 22) (e := 5) W.row (by simp) (by simp) c .i64
          have ld := Row.ld1 (P := Try.prog) (f := 5) W.row (by simp) c
          rw [List.getElem?_map, List.getElem?_eq_getElem ciy] at ld
          simp only [Option.map_some, byteV] at ld
          have hv := inv255 ⟨ys[i].toNat, ys[i].toNat_lt⟩
          simp only at hv
          generalize ys[i] = x at ld hv
          obtain ⟨g4, p1, p2, p3, p4⟩ := W.store1 (P := Try.prog) (e := 5) (x := .int .u8 ((UInt8.ofNat (255 - x.toNat)).toNat : Nat)) (by simp) rfl c
          have hab := W.above (by omega)
          have hr := hrv (by omega)
          generalize UInt8.ofNat (255 - x.toNat) = y at hv p1 p2
          have hmap : (ys.map byteV).set i (.int .u8 (y.toNat : Nat)) = (ys.set i y).map byteV := by rw [List.map_set]; rfl
          rw [hmap] at p2
          simp [f0, f3, f4, f6, f8, l3, c', ia, ld, hv, p1, w1, -load_ptr, -store_ptr, -roundQ_normal, ↓rq]
          refine stop_intro ⟨l.length - (i + 1), by omega, i + 1, ys.set i y, rfl, by omega, by simp [f0], by simp [f3], by simp [f4], by simp [f6], by simp, Upd.trans sm p3 fun j hj e => by omega, by simpa using hys, p2, MM.upd p3 fun j hj e => by have := MM.lo hj; omega, RR.upd p3 fun j hj e => by have := RR.lo hj; omega⟩
        · have c' : ¬ (i : Int) < l.length := by omega
          have hwE := hw.same sm
          have cw := Bytes.str (P := Try.prog) (t := 22) (u := 9) (e := 5) hwE (by simp) (by simp) (by simp)
          have l0 := RR.l0
          have tl := RR.tl
          simp [f0, f3, f4, f6, f8, l3, c']
          refine WpA.drawnT [0, 2, 3, 4, 5, 6, 1, 7, 8, 9, 11, 10, 12, 13, 14, 15, 16, 18, 17, 19, 20, 21, 22, 23, 26, 27, 24, 25, 28, 29, 30] [[], [0], [], [], [], [], [], [], [], [], [0, 1, 2, 3, 4, 5, 6, 7, 8, 9], [], [0, 1, 2, 3, 4, 5, 6, 7, 8, 9, 10, 11], [], [], [], [], [0, 1, 2, 3, 4, 5, 6, 7, 8, 9, 10, 11, 12, 13, 14, 15, 16], [], [0, 1, 2, 3, 4, 5, 6, 7, 8, 9, 10, 11, 12, 13, 14, 15, 16, 17, 18], [0, 1, 2, 3, 4, 5, 6, 7, 8, 9, 10, 11, 12, 13, 14, 15, 16, 17, 18, 19], [], [], [], [0, 1, 2, 3, 4, 5, 6, 7, 8, 9, 10, 11, 12, 13, 14, 15, 16, 17, 18, 19, 20, 21, 22, 23]] [[], [0], [], [2], [2, 3], [2, 3, 4], [2, 3, 4, 5], [0, 1, 2, 3, 4, 5, 6], [0, 1, 2, 3, 4, 5, 6, 7], [0, 1, 2, 3, 4, 5, 6, 7, 8], [0, 1, 2, 3, 4, 5, 6, 7, 8, 9], [0, 1, 2, 3, 4, 5, 6, 7, 8], [0, 1, 2, 3, 4, 5, 6, 7, 8, 9, 10, 11], [0, 1, 2, 3, 4, 5, 6, 7, 8, 9, 10, 11, 12], [0, 1, 2, 3, 4, 5, 6, 7, 8, 9, 10, 11, 12, 13], [0, 1, 2, 3, 4, 5, 6, 7, 8, 9, 10, 11, 12, 13, 14], [0, 1, 2, 3, 4, 5, 6, 7, 8, 9, 10, 11, 12, 13, 14, 15], [0, 1, 2, 3, 4, 5, 6, 7, 8, 9, 10, 11, 12, 13, 14, 15, 16], [0, 1, 2, 3, 4, 5, 6, 7, 8, 9, 10, 11, 12, 13, 14, 15], [0, 1, 2, 3, 4, 5, 6, 7, 8, 9, 10, 11, 12, 13, 14, 15, 16, 17, 18], [0, 1, 2, 3, 4, 5, 6, 7, 8, 9, 10, 11, 12, 13, 14, 15, 16, 17, 18, 19], [0, 1, 2, 3, 4, 5, 6, 7, 8, 9, 10, 11, 12, 13, 14, 15, 16, 17, 18, 19, 20], [0, 1, 2, 3, 4, 5, 6, 7, 8, 9, 10, 11, 12, 13, 14, 15, 16, 17, 18, 19, 20, 21], [0, 1, 2, 3, 4, 5, 6, 7, 8, 9, 10, 11, 12, 13, 14, 15, 16, 17, 18, 19, 20, 21, 22], [0, 1, 2, 3, 4, 5, 6, 7, 8, 9, 10, 11, 12, 13, 14, 15, 16, 17, 18, 19, 20, 21, 22, 23], [0, 1, 2, 3, 4, 5, 6, 7, 8, 9, 10, 11, 12, 13, 14, 15, 16, 17, 18, 19, 20, 21, 22, 23, 24], [0, 1, 2, 3, 4, 5, 6, 7, 8, 9, 10, 11, 12, 13, 14, 15, 16, 17, 18, 19, 20, 21, 22], [0, 1, 2, 3, 4, 5, 6, 7, 8, 9, 10, 11, 12, 13, 14, 15, 16, 17, 18, 19, 20, 21, 22, 26], [0, 1, 2, 3, 4, 5, 6, 7, 8, 9, 10, 11, 12, 13, 14, 15, 16, 17, 18, 19, 20, 21, 22, 23, 24, 25, 26, 27], [0, 1, 2, 3, 4, 5, 6, 7, 8, 9, 10, 11, 12, 13, 14, 15, 16, 17, 18, 19, 20, 21, 22, 23, 24, 25, 26, 27, 28], [0, 1, 2, 3, 4, 5, 6, 7, 8, 9, 10, 11, 12, 13, 14, 15, 16, 17, 18, 19, 20, 21, 22, 23, 24, 25, 26, 27, 28, 29]] (by kernel_rfl) (by decide +kernel) (by decide +kernel) (by decide +kernel) ?_
          simp [f4, f6, l0, tl, -load_ptr]
          refine after_call (flen_ev MM) ?_
          rintro r g5 ⟨rfl, rfl⟩
          simp [f4, f6, l0, tl, -load_ptr]
          refine after_call (free_ev MM) ?_
          rintro r g6 ⟨rfl, rfl⟩
          simp [f4, f6, l0, tl, -load_ptr]
          refine after_call (rfree_ev RR) ?_
          rintro r g7 ⟨rfl, rfl⟩
          simp [f4, f6, l0, tl, -load_ptr]
          refine after_call (list_ev MM) ?_
          rintro y1 g8 ⟨A8, s8⟩
          have RR8 := RR.same s8
          simp [f4, f6, -load_ptr]
          refine after_call (rlist_ev RR8) ?_
          rintro y2 g9 ⟨A9, s9⟩
          have hil := idxs_len T' T'.length
          have hTl := MM.len
          simp [f4, f6, -load_ptr]
          refine after_call (rints_ev (A8.same s9).row A9.row (by omega)) ?_
          rintro r g10 ⟨rfl, rfl⟩
          have MM10 := (MM.upd s8 (fun _ _ h => h)).upd s9 (fun _ _ h => h)
          have cw10 := Bytes.str (P := Try.prog) (t := 22) (u := 9) (e := 5) ((hwE.same s8).same s9) (by simp) (by simp) (by simp)
          simp [f0, f4, f6, cw10, -load_ptr]
          refine after_call (bytes_ev MM10) ?_
          rintro y3 g11 ⟨A11, s11⟩
          have hcb : cntB (T'.length : Nat) = enc T'.length := by
            unfold cntB; rw [if_neg (by omega)]; rfl
          rw [hcb, ← hI.2] at A11
          have c11 := Bytes.str (P := Try.prog) (t := 22) (u := 9) (e := 5) A11.row (by simp) (by simp) (by simp)
          have cw11 := Bytes.str (P := Try.prog) (t := 22) (u := 9) (e := 5) (((hwE.same s8).same s9).same s11) (by simp) (by simp) (by simp)
          simp [f0, f4, f6, c11, cw11, -load_ptr]
      · exact absurd hI (hno' T)
    · simp
      refine after_call (rload_ev hwg (by omega)) ?_
      rintro r g2 ⟨sg2, hq2⟩
      rcases hq2 with ⟨T', b', v', hI', _⟩ | ⟨_, rfl⟩
      · exact absurd hI' (hno T')
      · simp
theorem freemapLoads_ev (h : Hp) (vs : List Value) (dts : List Dt) (hr : RepAll Try.prog h 6 [22] vs dts) : EvA Try.prog 3 vs (fun r _ => r = .bool true) h := by
  obtain ⟨b, vs, e, ds, rfl, rfl, h2, hr⟩ := hr.cons
  rw [hr.nil]
  obtain ⟨l, l1, l2⟩ := h2.bytes (e := 5) (by simp) (by simp) (by kernel_rfl)
  exact loads05_ev (l1.row (by simp)) l2
end Go.Proofs.Ytklhioaokogpdaa
