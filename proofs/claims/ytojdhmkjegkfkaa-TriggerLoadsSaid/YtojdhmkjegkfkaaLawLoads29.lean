/- The law TriggerLoads: called, it comes to true; no condition. -/
import Derived.Test.YtojdhmkjegkfkaaRdE
namespace Go.Proofs.Ytojdhmkjegkfkaa
open Go.Ab
theorem IsEvs.eq {b : List UInt8} {L L' : List Ev} (h : IsEvs b L) (h' : IsEvs b L') : L = L' := by
  unfold IsEvs at h h'
  rw [h] at h'
  simp only [Option.some.injEq, Prod.mk.injEq, true_and] at h'
  exact h'
theorem EV.lo {h : Hp} {k b : Nat} {a : Value} {l : List Ev} (e : EV h k b a l) {j : Nat} (hj : ownE b a j) : k ≤ j ∧ j < h.length := by
  rcases hj with rfl | hj
  · exact ⟨e.above, hp_lt e.at_⟩
  · exact e.acc.above j hj
theorem RE.lo {h : Hp} {k b : Nat} {v : Value} {l : List Ev} (e : RE h k b v l) {j : Nat} (hj : ownE b v j) : k ≤ j ∧ j < h.length := by
  rcases hj with rfl | hj
  · exact ⟨e.above, hp_lt e.at_⟩
  · exact e.ab j hj
set_option maxHeartbeats 2000000 in
set_option maxRecDepth 4000 in
theorem loads29_ev {h : Hp} {w : Value} {l : List UInt8} (hw : Row h 1 w l.length (l.map byteV)) (hl : l.length ≤ 140737488351232) :
    EvA Try.prog 11 [w] (fun r _ => r = .bool true) h := by
  refine EvA.body Try.func11 rfl (by kernel_rfl) (by simp) ?_
  apply Run.ok
  have hlen := hw.len (P := Try.prog) (t := 40) (e := 5) (by simp)
  by_cases c0 : (2000 : Int) < l.length
  · simp [hlen, c0]
  · obtain ⟨v3, h1, e1, A1, s01, n1⟩ := Acc.appendLit (P := Try.prog) (h := h ++ [.cells [] false none]) (z := 1) (k := h.length) (b := h.length) (t := 40) (tx := 40) (e := 5) (by_ := 1) (dx := .slice 5) (Nat.le_refl _) (by simp) (by simp) (by simp) (by simp) rfl (hw.same (Same.new _)).2.1 (by simp) (by omega) (by omega)
    have s1 : Same h h1 := Same.trans (Same.new _) s01
    have hw1 := hw.same s1
    simp [hlen, c0, zeros, capO, e1]
    refine after_call (eloadO_ev A1.row (by omega)) ?_
    rintro r g1 ⟨sg1, hq⟩
    have hwg := hw1.same sg1
    rcases hq with ⟨a, L, hI, ok, rfl, E⟩ | ⟨hno, rfl⟩
    · simp
      refine after_call (rloadO_ev hwg (by omega)) ?_
      rintro r g2 ⟨sg2, hq2⟩
      rcases hq2 with ⟨v, L', hI', _, rfl, R⟩ | ⟨hno', _⟩
      · have hTT := hI'.eq hI
        subst hTT
        have E2 := E.same sg2
        have W2 := ((A1.wr).same sg1).same sg2
        have hrv : 0 < l.length → rbl v3 < h1.length := fun h0 => (A1.above (rbl v3) (Row.inRow (k := 0) A1.row h0)).2
        have hg1 := sg1.len
        simp
        refine WpA.loop (fun z fr g => ∃ (i : Nat) (ys : List UInt8), z = l.length - i ∧ i ≤ l.length ∧ fr 0 = w ∧ fr 3 = v3 ∧ fr 4 = .pointer (some ⟨h1.length, 0, none⟩) ∧ fr 6 = .pointer (some ⟨g1.length, 0, none⟩) ∧ fr 8 = .int .i64 (i : Nat) ∧ Same h g ∧ ys.length = l.length ∧ Wr h.length g 1 v3 l.length (ys.map byteV) ∧ EV g h1.length h1.length a L' ∧ RE g g1.length g1.length v L')
          (k := l.length) ⟨0, l, by simp, by omega, by simp, by simp, by simp, by simp, by simp, Same.trans (Same.trans s1 sg1) sg2, rfl, W2, E2, R⟩ ?_
        rintro z fr g ⟨i, ys, rfl, hi, f0, f3, f4, f6, f8, sm, hys, W, MM, RR⟩
        apply Run.ok
        have l3 := W.row.len (P := Try.prog) (t := 40) (e := 5) (by simp)
        by_cases c : i < l.length
        · have c' : (i : Int) < l.length := by omega
          have w1 : IntKind.i64.wrap ((i : Int) + 1) = (i : Int) + 1 := wrap_i64 (by omega) (by omega)
          have ia := Row.ia1 (P := Try.prog) (t := 40) (e := 5) W.row (by simp) (by simp) c .i64
          obtain ⟨g4, p1, p2, p3, p4⟩ := W.store1 (P := Try.prog) (e := 5) (x := .int .u8 122) (by simp) rfl c
          have hab := W.above (by omega)
          have hr := hrv (by omega)
          have hmap : (ys.map byteV).set i (.int .u8 122) = (ys.set i 122).map byteV := by rw [List.map_set]; rfl
          rw [hmap] at p2
          simp [f0, f3, f4, f6, f8, l3, c', ia, p1, w1, -load_ptr, -store_ptr, -roundQ_normal, ↓rq]
          refine stop_intro ⟨l.length - (i + 1), by omega, i + 1, ys.set i 122, rfl, by omega, by simp [f0], by simp [f3], by simp [f4], by simp [f6], by simp, Upd.trans sm p3 fun j hj e => by omega, by simpa using hys, p2, MM.upd p3 (by omega) fun j hj e => by have := (MM.lo (.inr hj)).1; omega, RR.upd p3 (by omega) fun j hj e => by have := (RR.lo (.inr hj)).1; omega⟩
        · have c' : ¬ (i : Int) < l.length := by omega
          have hwE := hw.same sm
          have cw := Bytes.str (P := Try.prog) (t := 40) (u := 9) (e := 5) hwE (by simp) (by simp) (by simp)
          have l0 := RR.l0
          simp [f0, f3, f4, f6, f8, l3, c']
          refine WpA.drawnT [0, 3, 4, 5, 6, 1, 2, 7, 8, 9, 12, 13, 10, 11, 14, 15, 16] [[], [0], [0, 1], [], [], [], [], [0, 1, 2, 3, 4, 5, 6], [], [], [0, 1, 2, 3, 4, 5, 6, 7, 8, 9]] [[], [0], [0, 1], [], [3], [3, 4], [3, 4, 5], [0, 1, 2, 3, 4, 5, 6], [0, 1, 2, 3, 4, 5, 6, 7], [0, 1, 2, 3, 4, 5, 6, 7, 8], [0, 1, 2, 3, 4, 5, 6, 7, 8, 9], [0, 1, 2, 3, 4, 5, 6, 7, 8, 9, 10], [0, 1, 2, 3, 4, 5, 6, 7, 8], [0, 1, 2, 3, 4, 5, 6, 7, 8, 12], [0, 1, 2, 3, 4, 5, 6, 7, 8, 9, 10, 11, 12, 13], [0, 1, 2, 3, 4, 5, 6, 7, 8, 9, 10, 11, 12, 13, 14], [0, 1, 2, 3, 4, 5, 6, 7, 8, 9, 10, 11, 12, 13, 14, 15]] (by kernel_rfl) (by decide +kernel) (by decide +kernel) (by decide +kernel) ?_
          simp [f4, f6, l0, -load_ptr]
          refine after_call (elist_ev MM) ?_
          rintro y1 g7 ⟨A7, s7⟩
          have R7 := RR.same s7
          have l07 := R7.l0
          simp [f4, f6, l07, -load_ptr]
          refine after_call (events_ev ⟨A7.row, fun _ _ => rfl⟩ MM.len) ?_
          rintro y2 g8 ⟨A8, s8⟩
          have R8 := R7.same s8
          have l08 := R8.l0
          simp [f4, f6, l08, -load_ptr]
          refine after_call (rsame_ev ⟨A8.row, fun _ _ => rfl⟩ R8.t (by have := MM.len; omega)) ?_
          rintro y3 g9 ⟨rfl, rfl⟩
          have cw9 := Bytes.str (P := Try.prog) (t := 40) (u := 9) (e := 5) ((hwE.same s7).same s8) (by simp) (by simp) (by simp)
          simp [f0, f4, f6, l08, cw9, -load_ptr]
          refine after_call (ebytes_ev ((MM.same s7).same s8) ok) ?_
          rintro y4 g10 ⟨A10, s10⟩
          have hby := hI'.bytes
          have c10 := Bytes.str (P := Try.prog) (t := 40) (u := 9) (e := 5) A10.row (by simp) (by simp) (by simp)
          have cw10 := Bytes.str (P := Try.prog) (t := 40) (u := 9) (e := 5) (((hwE.same s7).same s8).same s10) (by simp) (by simp) (by simp)
          have l010 := (R8.same s10).l0
          simp [f0, f4, f6, l010, c10, cw10, hby, -load_ptr]
      · exact absurd hI (hno' L)
    · simp
      refine after_call (rloadO_ev hwg (by omega)) ?_
      rintro r g2 ⟨sg2, hq2⟩
      rcases hq2 with ⟨v, L', hI', _⟩ | ⟨_, rfl⟩
      · exact absurd hI' (hno L')
      · simp
theorem triggerLoads_ev (h : Hp) (vs : List Value) (dts : List Dt) (hr : RepAll Try.prog h 6 [40] vs dts) : EvA Try.prog 11 vs (fun r _ => r = .bool true) h := by
  obtain ⟨b, vs, e, ds, rfl, rfl, h2, hr⟩ := hr.cons
  rw [hr.nil]
  obtain ⟨l, l1, l2⟩ := h2.bytes (e := 5) (by simp) (by simp) (by kernel_rfl)
  exact loads29_ev (l1.row (by simp)) l2
end Go.Proofs.Ytojdhmkjegkfkaa
