/- The law BadgeLoads: called, it comes to true; no condition. -/
import Derived.Test.YtaahkamnpobofaaAsked
namespace Go.Proofs.Ytaahkamnpobofaa
open Go.Ab
theorem inv255 : ∀ c : Fin 256, IntKind.u8.wrap (255 - (c.val : Int)) = (((UInt8.ofNat (255 - c.val)).toNat : Nat) : Int) := by decide +kernel
inductive LdInv (h : Hp) (v w : Value) (l : List UInt8) (d b d2 : Nat) (wv : Value) (k kd k2 : Nat) (T : Int) (L : List Bd) (z : Nat) (fr : Fr) (g : Hp) : Prop
  | mk (i : Nat) (ys : List UInt8) (hz : z = l.length - i) (hi : i ≤ l.length) (f0 : fr 0 = v) (f3 : fr 3 = w) (f4 : fr 4 = .pointer (some ⟨d, 0, none⟩)) (f6 : fr 6 = .pointer (some ⟨d2, 0, none⟩)) (f8 : fr 8 = .int .i64 (i : Nat))
      (sm : Same h g) (hy : ys.length = l.length) (W : Wr k g 1 w l.length (ys.map byteV)) (r : DeskR g kd d b T L) (r2 : RefD g k2 d2 wv T L)
inductive LdInv2 (h : Hp) (v : Value) (d b d2 : Nat) (wv : Value) (kd k2 : Nat) (T : Int) (L : List Bd) (z : Nat) (fr : Fr) (g : Hp) : Prop
  | mk (i : Nat) (hz : z = L.length - i) (hi : i ≤ L.length) (f0 : fr 0 = v) (f4 : fr 4 = .pointer (some ⟨d, 0, none⟩)) (f6 : fr 6 = .pointer (some ⟨d2, 0, none⟩)) (f9 : fr 9 = .int .i64 (i : Nat))
      (sm : Same h g) (r : DeskR g kd d b T L) (r2 : RefD g k2 d2 wv T L)
set_option maxHeartbeats 8000000 in
set_option maxRecDepth 10000 in
theorem loads26_ev {h : Hp} {w : Value} {l : List UInt8} (hw : Row h 1 w l.length (l.map byteV)) (hl : l.length ≤ 140737488351232) :
    EvA Try.prog 5 [w] (fun r _ => r = .bool true) h := by
  refine EvA.body Try.func5 rfl (by kernel_rfl) (by simp) ?_
  apply Run.ok
  have hlen := hw.len (P := Try.prog) (t := 42) (e := 5) (by simp)
  by_cases c0 : (400 : Int) < l.length
  · simp [hlen, c0]
  obtain ⟨v3, h1, e1, A1, s01, n1⟩ := Acc.appendLit (P := Try.prog) (h := h ++ [.cells [] false none]) (z := 1) (k := h.length) (b := h.length) (t := 42) (tx := 42) (e := 5) (by_ := 1) (dx := .slice 5) (Nat.le_refl _) (by simp) (by simp) (by simp) (by simp) rfl (hw.same (Same.new _)).2.1 (by simp) (by omega) (by omega)
  have s1 : Same h h1 := Same.trans (Same.new _) s01
  have hw1 := hw.same s1
  simp [hlen, c0, zeros, capO, e1]
  refine after_call (load_ev (BAcc.bytes A1) (by omega)) ?_
  rintro r g1 ⟨sg1, hq⟩
  have hwg : Bytes g1 w l := hw1.same sg1
  cases hL : loadD l with
  | none =>
    rw [hL] at hq
    simp only at hq
    subst hq
    simp
    refine after_call (rload_ev hwg (by omega)) ?_
    rintro r g2 ⟨sg2, hq2⟩
    rw [hL] at hq2
    simp only at hq2
    subst hq2
    simp
  | some q =>
  obtain ⟨T, L⟩ := q
  obtain ⟨ok, hsv⟩ := loadD_ok hL
  rw [hL] at hq
  obtain ⟨d, b, rfl, r⟩ := hq
  simp
  refine after_call (rload_ev hwg (by omega)) ?_
  rintro x g2 ⟨sg2, hq2⟩
  rw [hL] at hq2
  obtain ⟨d2, wv, rfl, r2⟩ := hq2
  have rr := r.same sg2
  have few := ok.few
  have W2 := ((A1.wr).same sg1).same sg2
  have hrv : 0 < l.length → rbl v3 < h1.length := fun h0 => (A1.above (rbl v3) (Row.inRow (k := 0) A1.row h0)).2
  have hg1 := sg1.len
  simp
  refine WpA.loop (LdInv h w v3 l d b d2 wv h.length h1.length g1.length T L) (k := l.length) ⟨0, l, by simp, by omega, by simp, by simp, by simp, by simp, by simp, (s1.trans sg1).trans sg2, rfl, W2, rr, r2⟩ ?_
  clear r rr r2 W2
  rintro z fr g ⟨i, ys, rfl, hi, f0, f3, f4, f6, f8, sm, hys, W, r, r2⟩
  apply Run.ok
  have l3 := W.row.len (P := Try.prog) (t := 42) (e := 5) (by simp)
  by_cases c : i < l.length
  · have c' : (i : Int) < l.length := by omega
    have w1 : IntKind.i64.wrap ((i : Int) + 1) = (i : Int) + 1 := wrap_i64 (by omega) (by omega)
    have ciy : i < ys.length := by omega
    have ia := Row.ia1 (P := Try.prog) (t := 42) (e := 5) W.row (by simp) (by simp) c .i64
    have ld := Row.ld1 (P := Try.prog) (f := 5) W.row (by simp) c
    rw [List.getElem?_map, List.getElem?_eq_getElem ciy] at ld
    simp only [Option.map_some, byteV] at ld
    have hv := inv255 ⟨ys[i].toNat, ys[i].toNat_lt⟩
    simp only at hv
    generalize ys[i] = x at ld hv
    obtain ⟨g4, p1, p2, p3, p4⟩ := W.store1 (P := Try.prog) (e := 5) (x := .int .u8 ((UInt8.ofNat (255 - x.toNat)).toNat : Nat)) (by simp) rfl c
    have hab := W.above (by omega)
    have hr := hrv (by omega)
    generalize UInt8.ofNat (255 - x.toNat) = y at hv p1 p2
    have hmap : (ys.map byteV).set i (.int .u8 (y.toNat : Nat)) = (ys.set i y).map byteV := by rw [List.map_set]; rfl
    rw [hmap] at p2
    have hkd := r.kd
    have hkb := r.kb
    have hkd2 := r2.kd
    simp [f3, f8, l3, c', ia, ld, hv, p1, w1, -load_ptr, -store_ptr, -roundQ_normal, ↓rq]
    exact stop_intro ⟨l.length - (i + 1), by omega, i + 1, ys.set i y, rfl, by omega, by simp [f0], by simp [f3], by simp [f4], by simp [f6], by simp, Upd.trans sm p3 fun j hj e => by omega, by simpa using hys, p2, r.upd p3 (by omega) (by omega), r2.upd p3 (by omega) (fun j hj e => by have := (r2.row.above j hj).1; omega)⟩
  have c' : ¬ (i : Int) < l.length := by omega
  simp [f3, f8, l3, c']
  refine WpA.loop (LdInv2 h w d b d2 wv h1.length g1.length T L) (k := L.length) ⟨0, by simp, by omega, by simp [f0], by simp [f4], by simp [f6], by simp, sm, r, r2⟩ ?_
  clear f0 f3 f4 f6 f8 sm W r r2 l3 c c'
  rintro z fr gA ⟨i, rfl, hi, f0, f4, f6, f9, sm, r, r2⟩
  apply Run.ok
  have l1 := r2.l1
  have fl := FLen r2.fr
  by_cases c : i < L.length
  · have c' : (i : Int) < L.length := by omega
    have w1 : IntKind.i64.wrap ((i : Int) + 1) = (i : Int) + 1 := wrap_i64 (by omega) (by omega)
    have hgd := (Bd.good_iff L[i]).1 (ok.good L[i] (List.getElem_mem _))
    have hno := ok.nos L[i] (List.getElem_mem _)
    have hT := ok.l1
    have ia := FIA r2.fr c
    have q0 := FC0 r2.fr c
    simp [f6, f9, l1, fl, c', -load_ptr]
    refine WpA.drawnT [0, 1, 2, 3, 4, 5, 6, 7, 8, 9, 10, 11, 12, 13, 14, 15, 16, 17, 18, 19, 20, 21, 22, 23, 24, 25, 26, 27, 28, 29, 30, 31, 32, 33] [[], [], [], [], [], [], [], [], [], [], [0, 1, 2, 3, 4, 5, 6, 7, 8, 9], [], [], [], [], [], [], [], [], [], [], [], [], [], [], [], [], [], [], [], [], [0, 1, 2, 3, 4, 5, 6, 7, 8, 9, 10, 11, 12, 13, 14, 15, 16, 17, 18, 19, 20, 21, 22, 23, 24, 25, 26, 27, 28, 29, 30]] [[], [], [], [2], [2, 3], [2, 3, 4], [], [2, 3, 4, 5, 6], [2, 3, 4, 5, 6, 7], [2, 3, 4, 5, 6, 7, 8], [0, 1, 2, 3, 4, 5, 6, 7, 8, 9], [0, 1, 2, 3, 4, 5, 6, 7, 8, 9, 10], [0, 1, 2, 3, 4, 5, 6, 7, 8, 9, 10, 11], [0, 1, 2, 3, 4, 5, 6, 7, 8, 9, 10, 11, 12], [0, 1, 2, 3, 4, 5, 6, 7, 8, 9, 10, 11, 12], [0, 1, 2, 3, 4, 5, 6, 7, 8, 9, 10, 11, 12], [0, 1, 2, 3, 4, 5, 6, 7, 8, 9, 10, 11, 12, 15], [0, 1, 2, 3, 4, 5, 6, 7, 8, 9, 10, 11, 12, 15, 16], [0, 1, 2, 3, 4, 5, 6, 7, 8, 9, 10, 11, 12, 15, 16, 17], [0, 1, 2, 3, 4, 5, 6, 7, 8, 9, 10, 11, 12], [0, 1, 2, 3, 4, 5, 6, 7, 8, 9, 10, 11, 12, 15, 16, 17, 18, 19], [0, 1, 2, 3, 4, 5, 6, 7, 8, 9, 10, 11, 12, 15, 16, 17, 18, 19, 20], [0, 1, 2, 3, 4, 5, 6, 7, 8, 9, 10, 11, 12, 15, 16, 17, 18, 19, 20, 21], [0, 1, 2, 3, 4, 5, 6, 7, 8, 9, 10, 11, 12], [0, 1, 2, 3, 4, 5, 6, 7, 8, 9, 10, 11, 12, 23], [0, 1, 2, 3, 4, 5, 6, 7, 8, 9, 10, 11, 12, 23, 24], [0, 1, 2, 3, 4, 5, 6, 7, 8, 9, 10, 11, 12, 23, 24, 25], [0, 1, 2, 3, 4, 5, 6, 7, 8, 9, 10, 11, 12], [0, 1, 2, 3, 4, 5, 6, 7, 8, 9, 10, 11, 12, 23, 24, 25, 26, 27], [0, 1, 2, 3, 4, 5, 6, 7, 8, 9, 10, 11, 12, 23, 24, 25, 26, 27, 28], [0, 1, 2, 3, 4, 5, 6, 7, 8, 9, 10, 11, 12, 23, 24, 25, 26, 27, 28, 29], [0, 1, 2, 3, 4, 5, 6, 7, 8, 9, 10, 11, 12, 13, 14, 15, 16, 17, 18, 19, 20, 21, 22, 23, 24, 25, 26, 27, 28, 29, 30], [0, 1, 2, 3, 4, 5, 6, 7, 8, 9, 10, 11, 12, 13, 14, 15, 16, 17, 18, 19, 20, 21, 22, 23, 24, 25, 26, 27, 28, 29, 30, 31], [0, 1, 2, 3, 4, 5, 6, 7, 8, 9, 10, 11, 12, 13, 14, 15, 16, 17, 18, 19, 20, 21, 22, 23, 24, 25, 26, 27, 28, 29, 30, 31, 32]] (by kernel_rfl) (by decide +kernel) (by decide +kernel) (by decide +kernel) ?_
    simp [f4, f6, f9, l1, ia, q0, -load_ptr]
    refine after_call (asked_ev r r2 L[i].no 1 (by omega)) ?_
    rintro w5 gB ⟨sB, rfl⟩
    have rB2 := r2.same sB
    have l1 := rB2.l1
    have ia := FIA rB2.fr c
    have q1 := FC1 rB2.fr c
    have q2 := FC2 rB2.fr c
    simp [f4, f6, f9, l1, ia, q1, q2, -load_ptr]
    refine after_call (asked_ev (r.same sB) rB2 L[i].pipe L[i].job (by omega)) ?_
    rintro w6 gC ⟨sC, rfl⟩
    simp [f9, w1, -load_ptr, -roundQ_normal, ↓rq]
    exact stop_intro ⟨L.length - (i + 1), by omega, i + 1, rfl, by omega, by simp [f0], by simp [f4], by simp [f6], by simp, (sm.trans sB).trans sC, (r.same sB).same sC, rB2.same sC⟩
  have c' : ¬ (i : Int) < L.length := by omega
  have k0 := r2.l0
  have hT := ok.l1
  simp [f6, f9, l1, fl, c', -load_ptr]
  refine WpA.drawnT [0, 1, 2, 3, 4, 5, 6, 7, 8, 11, 12, 9, 10, 13, 14, 15] [[], [], [], [], [], [], [0, 1, 2, 3, 4, 5], [], [], [0, 1, 2, 3, 4, 5, 6, 7, 8]] [[], [], [], [2], [2, 3], [2, 3, 4], [0, 1, 2, 3, 4, 5], [0, 1, 2, 3, 4, 5, 6], [0, 1, 2, 3, 4, 5, 6, 7], [0, 1, 2, 3, 4, 5, 6, 7, 8], [0, 1, 2, 3, 4, 5, 6, 7, 8, 9], [0, 1, 2, 3, 4, 5, 6, 7], [0, 1, 2, 3, 4, 5, 6, 7, 11], [0, 1, 2, 3, 4, 5, 6, 7, 8, 9, 10, 11, 12], [0, 1, 2, 3, 4, 5, 6, 7, 8, 9, 10, 11, 12, 13], [0, 1, 2, 3, 4, 5, 6, 7, 8, 9, 10, 11, 12, 13, 14]] (by kernel_rfl) (by decide +kernel) (by decide +kernel) (by decide +kernel) ?_
  simp [f4, f6, k0, -load_ptr]
  refine after_call (asked_ev r r2 T 0 (by omega)) ?_
  rintro w5 gB ⟨sB, rfl⟩
  have hwE : Bytes gB w l := (hw.same sm).same sB
  have cw := Bytes.str (P := Try.prog) (t := 42) (u := 9) (e := 5) hwE (by simp) (by simp) (by simp)
  simp [f0, f4, cw, -load_ptr]
  refine after_call (save_ev (r.same sB)) ?_
  rintro w6 gC ⟨C, sC⟩
  rw [← hsv] at C
  have cC := (BAcc.bytes C).str (P := Try.prog) (t := 42) (u := 9) (e := 5) (by simp) (by simp) (by simp)
  have cw' := Bytes.str (P := Try.prog) (t := 42) (u := 9) (e := 5) (hwE.same sC) (by simp) (by simp) (by simp)
  simp [cC, cw', -load_ptr]
theorem badgeLoads_ev (h : Hp) (vs : List Value) (dts : List Dt) (hr : RepAll Try.prog h 6 [42] vs dts) : EvA Try.prog 5 vs (fun r _ => r = .bool true) h := by
  obtain ⟨b, vs, e, ds, rfl, rfl, h2, hr⟩ := hr.cons
  rw [hr.nil]
  obtain ⟨l, l1, l2⟩ := h2.bytes (e := 5) (by simp) (by simp) (by kernel_rfl)
  exact loads26_ev (l1.row (by simp)) l2
end Go.Proofs.Ytaahkamnpobofaa
