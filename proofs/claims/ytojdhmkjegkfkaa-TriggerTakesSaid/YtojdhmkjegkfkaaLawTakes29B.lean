/- The law TriggerTakes: called, it comes to true; no condition. -/
import Derived.Test.YtojdhmkjegkfkaaLawTakes29
namespace Go.Proofs.Ytojdhmkjegkfkaa
open Go.Ab
theorem zCat (s : List UInt8) : (⟨#[122]⟩ : ByteArray) ++ bs s = bs (122 :: s) := by
  apply ByteArray.ext
  simp [bs]
theorem zSz : (⟨#[122]⟩ : ByteArray).size = 1 := rfl
set_option maxHeartbeats 4000000 in
set_option maxRecDepth 6000 in
theorem takes29_ev {h : Hp} {w : Value} {l : List Tst} (hw : TRow h 3 w l Tst.cells) (hl : l.length ≤ 140737488351232) (hs : ∀ s ∈ l, s.id.length ≤ 140737488351232) :
    EvA Try.prog 12 [w] (fun r _ => r = .bool true) h := by
  refine EvA.body Try.func12 rfl (by kernel_rfl) (by simp) ?_
  apply Run.ok
  have hlen := hw.len (P := Try.prog) (t := 66) (e := 68) (by simp)
  by_cases c0 : (60 : Int) < l.length
  · simp [hlen, c0]
  · simp [hlen, c0]
    refine after_call (enew_ev _) ?_
    rintro r h1 ⟨rfl, s1, E1⟩
    simp [cellsOf, spl]
    have hK := s1.len
    have hbE := hp_lt E1.at_
    have s2 : Same h1 (h1 ++ [.cells [.slice none 0 0] false none]) := Same.new _
    have W0 : Evs (h1 ++ [.cells [.slice none 0 0] false none]) h.length h.length (.slice none 0 0) h1.length (.slice none 0 0) [] := by
      have hno : ∀ j, ¬ inRow (.slice none 0 0) j := fun j hj => by obtain ⟨a, n, c, he, _⟩ := hj; cases he
      refine ⟨E1.same s2, ⟨by simp, hK, (Acc.nil 0).sl, fun j hj => absurd hj (hno j), fun j hj => absurd hj (hno j), by simp⟩, ⟨by simp, by simp, by simp⟩, fun j hj hc => ?_⟩
      rcases hj with rfl | hj
      · rcases hc with h | h
        · omega
        · exact hno _ h
      · exact hno _ hj
    have sm0 := Same.trans s1 s2
    refine WpA.loop (fun z fr g => ∃ (i b c : Nat) (a v : Value) (L : List Ev), z = l.length - i ∧ i ≤ l.length ∧ fr 0 = w ∧ fr 3 = .pointer (some ⟨b, 0, none⟩) ∧ fr 4 = .pointer (some ⟨c, 0, none⟩) ∧ fr 5 = .int .i64 (i : Nat) ∧ Same h g ∧ Evs g h.length b a c v L)
      (k := l.length) ⟨0, h.length, h1.length, _, _, [], by simp, by omega, by simp, by simp, by simp, by simp, sm0, W0⟩ ?_
    clear W0 sm0 s1 s2 E1
    rintro z fr g ⟨i, b, c, a, v, L, rfl, hi, f0, f3, f4, f5, sm, W⟩
    apply Run.ok
    have hwg := hw.same sm
    have hlg := hwg.len (P := Try.prog) (t := 66) (e := 68) (by simp)
    by_cases cc : i < l.length
    · have cc' : (i : Int) < l.length := by omega
      have w1 : IntKind.i64.wrap ((i : Int) + 1) = (i : Int) + 1 := wrap_i64 (by omega) (by omega)
      have ia := hwg.ia (P := Try.prog) (t := 66) (e := 68) (by simp) (by simp) cc .i64
      have ld : loadA Try.prog 68 (.pointer (some ⟨rbl w, rof w + i * 3, none⟩)) g = some (.agg #[.int .u8 l[i].kind, .string (bs l[i].id), .int .i64 l[i].pipe]) := by
        rw [hwg.agg (P := Try.prog) (e := 68) (by simp) (by simp) cc]; rfl
      have hid := hs l[i] (List.getElem_mem _)
      generalize l[i] = st at ld hid
      obtain ⟨k0, id, pp⟩ := st
      simp only at ld hid
      simp [f0, f3, f4, f5, hlg, cc', ia, ld, -load_ptr]
      have sA : Same g (g ++ [.cells [.int .u8 k0, .string (bs id), .int .i64 pp] false none]) := Same.new _
      have hsA : (g ++ [Blk.cells [.int .u8 k0, .string (bs id), .int .i64 pp] false none])[g.length]? = some (.cells [.int .u8 k0, .string (bs id), .int .i64 pp] false none) := by simp
      generalize g ++ [Blk.cells [.int .u8 k0, .string (bs id), .int .i64 pp] false none] = gA at sA hsA ⊢
      have WA := W.same sA
      have smA := Same.trans sm sA
      have hgA := hp_lt hsA
      have ldI : ∀ g', g'[g.length]? = some (.cells [.int .u8 k0, .string (bs id), .int .i64 pp] false none) → loadA Try.prog 9 (.pointer (some ⟨g.length, 1, none⟩)) g' = some (.string (bs id)) := fun g' h => by rw [load_at h (by simp)]; rfl
      have ldP : ∀ g', g'[g.length]? = some (.cells [.int .u8 k0, .string (bs id), .int .i64 pp] false none) → loadA Try.prog 3 (.pointer (some ⟨g.length, 2, none⟩)) g' = some (.int .i64 pp) := fun g' h => by rw [load_at h (by simp)]; rfl
      have lk : loadA Try.prog 5 (.pointer (some ⟨g.length, 0, none⟩)) gA = some (.int .u8 k0) := by rw [load_at hsA (by simp)]; rfl
      have lA := ldI _ hsA
      have lPA := ldP _ hsA
      have nown : ∀ j, ownE b a j ∨ ownE c v j → j ≠ g.length := fun j hj e => by have := (W.lo j hj).2; omega
      by_cases e0 : k0 = 0
      case' pos =>
        simp [lk, e0, -load_ptr]
        refine WpA.drawnT [0, 1, 2, 3, 4, 6, 7, 8, 9, 10, 5, 11, 12] [[], [], [], [], [], [0, 1, 2, 3, 4], [], [], [], [], [], [0, 1, 2, 3, 4, 5, 6, 7, 8, 9, 10]] [[], [], [1], [], [3], [0, 1, 2, 3, 4], [], [], [7], [], [9], [0, 1, 2, 3, 4, 5, 6, 7, 8, 9, 10], [0, 1, 2, 3, 4, 5, 6, 7, 8, 9, 10, 11]] (by kernel_rfl) (by decide +kernel) (by decide +kernel) (by decide +kernel) ?_
        simp [f3, f4, lA, lPA, -load_ptr]
        refine after_call (etake_ev id (by omega) pp WA.e smA.len) ?_
        rintro r1 g1 ⟨rfl, a6, E1, u1, n1⟩
        have hs1 := u1.at hsA fun hin => nown _ (.inl hin) rfl
        have l1 := ldI _ hs1
        have lP1 := ldP _ hs1
        simp [f3, f4, l1, lP1, -load_ptr]
        have R1 := WA.r.upd u1 (fun hin => WA.d c hin (.inl rfl)) (fun j hj hin => WA.d j hin (.inr hj))
        have sm1 : Same h g1 := Upd.trans smA u1 fun j hj hin => by have := (WA.lo j (.inl hin)).1; omega
        refine after_call (rtake_ev id (by omega) pp R1 sm1.len) ?_
        rintro r2 g6 ⟨rfl, v6, R6, u6, n6⟩
        have W6 := WA.take (takeE_ok WA.ok id pp) E1 u1 n1 R6 u6 n6
        have hs6 := u6.at hs1 fun hin => nown _ (.inr hin) rfl
        have sm6 : Same h g6 := Upd.trans sm1 u6 fun j hj hin => by have := (WA.lo j (.inr hin)).1; omega
        have l6 := ldI _ hs6
        have lP6 := ldP _ hs6
        clear R6 E1 R1 u1 u6 n1 n6
        generalize (takeE L id pp) = tt at W6 ⊢
        obtain ⟨ee, L6⟩ := tt
        simp only at W6
        obtain ⟨b6, hb6⟩ : ∃ b6, b6 = b := ⟨_, rfl⟩
        rw [← hb6] at W6 f3
        simp [f3, f4, l6, lP6, -load_ptr]
      case' neg =>
        by_cases e1 : k0 = 1
        case' pos =>
          have wz : ((1 : Nat) : Int) = 1 := rfl
          simp [lk, e1, f3, -load_ptr]
          refine after_call (ecopy_ev WA.e) ?_
          rintro r1 g1 ⟨s1, b6, a6, rfl, C1⟩
          have l1 := ldI _ (s1.at hsA)
          have hsz2 : (bs id).size = id.length := by simp
          have hz1 : 1 + id.length ≤ 9223372036854775807 := by omega
          simp [f3, l1, zCat, zSz, hsz2, hz1, -load_ptr]
          have W1 := WA.same s1
          have sm1 := Same.trans smA s1
          refine after_call (etake_ev (122 :: id) (by simp; omega) 1 W1.e sm1.len) ?_
          rintro r2 g6 ⟨rfl, a7, E6, u6, n6⟩
          have hs6 := u6.at (s1.at hsA) fun hin => nown _ (.inl hin) rfl
          have sm6 : Same h g6 := Upd.trans sm1 u6 fun j hj hin => by have := (WA.lo j (.inl hin)).1; omega
          have R6 := W1.r.upd u6 (fun hin => W1.d c hin (.inl rfl)) (fun j hj hin => W1.d j hin (.inr hj))
          have hC : ∀ j, ownE b6 a6 j → gA.length ≤ j := fun j hj => by
            rcases hj with rfl | hj
            · exact C1.above
            · exact (C1.acc.above j hj).1
          have C6 := C1.upd u6 (fun hin => by have h3 := hC b6 (.inl rfl); have h4 := (WA.lo _ (.inl hin)).2; omega) (fun j hj hin => by have h3 := hC j (.inr hj); have h4 := (WA.lo _ (.inl hin)).2; omega)
          have W6 : Evs g6 h.length b6 a6 c v L := ⟨C6.down smA.len, R6, WA.ok, fun j hj hc => by have h3 := hC j hj; have h4 := (WA.lo _ (.inr hc)).2; omega⟩
          obtain ⟨L6, v6, rfl, rfl⟩ : ∃ L6 v6, L6 = L ∧ v6 = v := ⟨_, _, rfl, rfl⟩
          have l6 := ldI _ hs6
          clear E6 u6 n6 C6 C1 R6 W1
          simp [f3, f4, l6, -load_ptr]
        case' neg =>
          by_cases e2 : k0 = 2
          case' pos =>
            simp [lk, e2, f3, -load_ptr]
            refine after_call (ebytes_ev WA.e WA.ok) ?_
            rintro r1 g1 ⟨A1, s1⟩
            simp
            refine after_call (eload_ev WA.ok WA.e.len A1.row) ?_
            rintro r2 g6 ⟨s6, b6, a6, rfl, C6⟩
            have hs6 := s6.at (s1.at hsA)
            have sm6 := Same.trans (Same.trans smA s1) s6
            have h1l := s1.len
            have hC : ∀ j, ownE b6 a6 j → g1.length ≤ j := fun j hj => by
              rcases hj with rfl | hj
              · exact C6.above
              · exact (C6.acc.above j hj).1
            have W6 : Evs g6 h.length b6 a6 c v L := ⟨C6.down (Same.trans smA s1).len, (WA.r.same s1).same s6, WA.ok, fun j hj hc => by have h3 := hC j hj; have h4 := (WA.lo _ (.inr hc)).2; omega⟩
            obtain ⟨L6, v6, rfl, rfl⟩ : ∃ L6 v6, L6 = L ∧ v6 = v := ⟨_, _, rfl, rfl⟩
            have l6 := ldI _ hs6
            clear C6 A1
            simp [f3, f4, l6, -load_ptr]
          case' neg =>
            have q0 : (k0 == 0) = false := by simp [e0]
            have q1 : (k0 == 1) = false := by simp [e1]
            have q2 : (k0 == 2) = false := by simp [e2]
            have W6 := WA
            have hs6 := hsA
            have sm6 := smA
            have l6 := ldI _ hs6
            simp [lk, q0, q1, q2, f3, lA, -load_ptr]
            obtain ⟨b6, a6, L6, v6, g6, rfl, rfl, rfl, rfl, rfl⟩ : ∃ b6 a6 L6 v6 g6, b6 = b ∧ a6 = a ∧ L6 = L ∧ v6 = v ∧ g6 = gA := ⟨_, _, _, _, _, rfl, rfl, rfl, rfl, rfl⟩
      all_goals
        refine after_call (seen_ev id W6.e) ?_
        rintro y1 g7 ⟨rfl, rfl⟩
        simp [f3, f4, l6, -load_ptr]
        refine after_call (rseen_ev id W6.r) ?_
        rintro y2 g8 ⟨rfl, rfl⟩
        simp [f3, f4, l6, -load_ptr]
        refine after_call (elist_ev W6.e) ?_
        rintro y3 g9 ⟨A9, s9⟩
        have W9 := W6.same s9
        simp [f3, f4, -load_ptr]
        refine after_call (ebytes_ev W9.e W9.ok) ?_
        rintro y4 g10 ⟨A10, s10⟩
        have W10 := W9.same s10
        have l010 := W10.r.l0
        have c10 := Bytes.str (P := Try.prog) (t := 40) (u := 9) (e := 5) A10.row (by simp) (by simp) (by simp)
        simp
        refine WpA.drawnT [0, 1, 2, 3, 4, 5, 6, 7, 8, 9, 11, 12, 13, 14, 10, 15, 16, 17, 18, 19, 20, 21, 22, 23, 24, 25] [[], [], [], [], [], [], [], [], [], [], [0, 1, 2, 3, 4, 5, 6, 7, 8, 9], [], [], [], [], [0, 1, 2, 3, 4, 5, 6, 7, 8, 9, 10, 11, 12, 13, 14], [], [], [], [], [], [], [0, 1, 2, 3, 4, 5, 6, 7, 8, 9, 10, 11, 12, 13, 14, 15, 16, 17, 18, 21]] [[], [], [0, 1], [0, 1, 2], [0, 1, 2, 3], [0, 1, 2, 3], [0, 1, 2, 3, 4, 5], [0, 1, 2, 3, 4, 5, 6], [0, 1, 2, 3, 4, 5, 6, 7], [0, 1, 2, 3, 4, 5, 6, 7, 8], [0, 1, 2, 3, 4, 5, 6, 7, 8, 9], [0, 1, 2, 3, 4, 5, 6, 7, 8], [0, 1, 2, 3, 4, 5, 6, 7, 8, 11], [0, 1, 2, 3, 4, 5, 6, 7, 8, 11, 12], [0, 1, 2, 3, 4, 5, 6, 7, 8, 11, 12, 13], [0, 1, 2, 3, 4, 5, 6, 7, 8, 9, 10, 11, 12, 13, 14], [0, 1, 2, 3, 4, 5, 6, 7, 8, 9, 10, 11, 12, 13, 14, 15], [0, 1, 2, 3, 4, 5, 6, 7, 8, 9, 10, 11, 12, 13, 14, 15, 16], [0, 1, 2, 3, 4, 5, 6, 7, 8, 9, 10, 11, 12, 13, 14, 15, 16, 17], [0, 1, 2, 3, 4, 5, 6, 7, 8, 9, 10, 11, 12, 13, 14, 15, 16, 17, 18], [0, 1, 2, 3, 4, 5, 6, 7, 8, 9, 10, 11, 12, 13, 14, 15, 16, 17, 18, 19], [0, 1, 2, 3, 4, 5, 6, 7, 8, 9, 10, 11, 12, 13, 14, 15, 16, 17, 18], [0, 1, 2, 3, 4, 5, 6, 7, 8, 9, 10, 11, 12, 13, 14, 15, 16, 17, 18, 21], [0, 1, 2, 3, 4, 5, 6, 7, 8, 9, 10, 11, 12, 13, 14, 15, 16, 17, 18, 21, 22], [0, 1, 2, 3, 4, 5, 6, 7, 8, 9, 10, 11, 12, 13, 14, 15, 16, 17, 18, 19, 20, 21, 22, 23], [0, 1, 2, 3, 4, 5, 6, 7, 8, 9, 10, 11, 12, 13, 14, 15, 16, 17, 18, 19, 20, 21, 22, 23, 24]] (by kernel_rfl) (by decide +kernel) (by decide +kernel) (by decide +kernel) ?_
        simp [f3, f4, l010, -load_ptr]
        refine after_call (events_ev ⟨(A9.same s10).row, fun _ _ => rfl⟩ W6.e.len) ?_
        rintro y5 g11 ⟨A11, s11⟩
        have W11 := W10.same s11
        have l011 := W11.r.l0
        simp [f3, f4, l011, -load_ptr]
        refine after_call (rsame_ev ⟨A11.row, fun _ _ => rfl⟩ W11.r.t (by have := W6.e.len; omega)) ?_
        rintro y6 g12 ⟨rfl, rfl⟩
        have c12 := Bytes.str (P := Try.prog) (t := 40) (u := 9) (e := 5) (A10.same s11).row (by simp) (by simp) (by simp)
        simp [f3, f4, l011, c12, -load_ptr]
        refine after_call (rbytes_ev W11.r W11.ok) ?_
        rintro y7 g13 ⟨A13, s13⟩
        have c13 := Bytes.str (P := Try.prog) (t := 40) (u := 9) (e := 5) ((A10.same s11).same s13).row (by simp) (by simp) (by simp)
        have c13' := Bytes.str (P := Try.prog) (t := 40) (u := 9) (e := 5) A13.row (by simp) (by simp) (by simp)
        simp [f3, f4, c13, c13', -load_ptr]
        have W13 := W11.same s13
        have L13 := ((A9.same s10).same s11).same s13
        have B13 := (A10.same s11).same s13
        have sm13 := Same.trans (Same.trans (Same.trans (Same.trans sm6 s9) s10) s11) s13
        have hi6 : ∀ j, ownE b6 a6 j ∨ ownE c v6 j → j < g8.length := fun j hj => (W6.lo j hj).2
        have hlo1 : 0 < L6.length → g8.length ≤ rbl y3 ∧ rbl y3 < g9.length := fun h0 => A9.above _ (Row.inRow (k := 0) A9.row h0)
        have hlo2 : 0 < (evsB L6).length → g9.length ≤ rbl y4 := fun h0 => (A10.above _ (Row.inRow (k := 0) A10.row h0)).1
        have h6 := sm6.len
        have h69 := s9.len
        have hL8 := W6.e.len
        have hBl : (evsB L6).length ≤ 10000 := by
          have h1 := evsB_len W6.ok
          have h2 := grps_le L6.length (by omega)
          unfold evsB
          rw [List.length_append, enc_length]; omega
        have B13' : Acc g9.length g13 1 y4 (evsB L6).length ((evsB L6).map byteV) := B13
        generalize L6.flatMap Ev.cells = xs at L13
        generalize hN : L6.length = N at L13 hlo1 hL8
        generalize (evsB L6).map byteV = ys at B13'
        generalize (evsB L6).length = M at B13' hlo2 hBl
        refine WpA.loop (fun z fr gL => ∃ (q : Nat) (xs : List Value), z = N - q ∧ q ≤ N ∧ fr 0 = w ∧ fr 3 = .pointer (some ⟨b6, 0, none⟩) ∧ fr 4 = .pointer (some ⟨c, 0, none⟩) ∧ fr 5 = .int .i64 (i : Nat) ∧ fr 14 = y3 ∧ fr 15 = y4 ∧ fr 16 = .int .i64 (q : Nat) ∧ Same h gL ∧ Evs gL h.length b6 a6 c v6 L6 ∧ Wr g8.length gL 2 y3 N xs ∧ Acc g9.length gL 1 y4 M ys)
          (k := N) ⟨0, xs, by simp, by omega, by simp [f0], by simp [f3], by simp [f4], by simp [f5], by simp, by simp, by simp, sm13, W13, L13.wr, B13'⟩ ?_
        clear f0 f3 f4 f5
        rintro z fr gL ⟨q, xs, rfl, hq, f0, f3, f4, f5, f14, f15, f16, smL, WL, LL, BL⟩
        apply Run.ok
        have lL := LL.row.len (P := Try.prog) (t := 44) (e := 47) (by simp)
        by_cases cq : q < N
        · have cq' : (q : Int) < N := by omega
          have wq : IntKind.i64.wrap ((q : Int) + 1) = (q : Int) + 1 := wrap_i64 (by omega) (by omega)
          have iaq := Row.ia (P := Try.prog) (t := 44) (e := 47) LL.row (by simp) (by simp) cq .i64
          obtain ⟨gM, p1, p2, p3, p4⟩ := LL.storec (P := Try.prog) (e := 9) (x := .string ⟨#[63]⟩) (j := 0) (by simp) rfl cq (by omega)
          rw [Nat.add_zero] at p1
          obtain ⟨hr1, hr2⟩ := hlo1 (by omega)
          simp [f0, f3, f4, f5, f14, f15, f16, lL, cq', iaq, p1, wq, -load_ptr, -store_ptr, -roundQ_normal, ↓rq]
          refine stop_intro ⟨N - (q + 1), by omega, q + 1, _, rfl, by omega, by simp [f0], by simp [f3], by simp [f4], by simp [f5], by simp [f14], by simp [f15], by simp, Upd.trans smL p3 fun j hj e => by omega, WL.upd p3 fun j h3 e => by have := hi6 j h3; omega, p2, BL.upd p3 fun j hj e => by have := (BL.above j hj).1; omega⟩
        · have cq' : ¬ (q : Int) < N := by omega
          simp [f0, f3, f4, f5, f14, f15, f16, lL, cq']
          refine WpA.loop (fun z fr gL => ∃ (q : Nat) (ys : List Value), z = M - q ∧ q ≤ M ∧ fr 0 = w ∧ fr 3 = .pointer (some ⟨b6, 0, none⟩) ∧ fr 4 = .pointer (some ⟨c, 0, none⟩) ∧ fr 5 = .int .i64 (i : Nat) ∧ fr 15 = y4 ∧ fr 17 = .int .i64 (q : Nat) ∧ Same h gL ∧ Evs gL h.length b6 a6 c v6 L6 ∧ Wr g9.length gL 1 y4 M ys)
            (k := M) ⟨0, ys, by simp, by omega, by simp [f0], by simp [f3], by simp [f4], by simp [f5], by simp [f15], by simp, smL, WL, BL.wr⟩ ?_
          clear f0 f3 f4 f5 f14 f15 f16 lL smL WL LL BL
          rintro z fr gL ⟨q, ys, rfl, hq, f0, f3, f4, f5, f15, f17, smL, WL, BL⟩
          apply Run.ok
          have lL := BL.row.len (P := Try.prog) (t := 40) (e := 5) (by simp)
          by_cases cr : q < M
          · have cr' : (q : Int) < M := by omega
            have wq : IntKind.i64.wrap ((q : Int) + 1) = (q : Int) + 1 := wrap_i64 (by omega) (by omega)
            have iaq := Row.ia1 (P := Try.prog) (t := 40) (e := 5) BL.row (by simp) (by simp) cr .i64
            obtain ⟨gM, p1, p2, p3, p4⟩ := BL.store1 (P := Try.prog) (e := 5) (x := .int .u8 255) (by simp) rfl cr
            have hr1 := hlo2 (by omega)
            simp [f0, f3, f4, f5, f15, f17, lL, cr', iaq, p1, wq, -load_ptr, -store_ptr, -roundQ_normal, ↓rq]
            refine stop_intro ⟨M - (q + 1), by omega, q + 1, _, rfl, by omega, by simp [f0], by simp [f3], by simp [f4], by simp [f5], by simp [f15], by simp, Upd.trans smL p3 fun j hj e => by omega, WL.upd p3 fun j h3 e => by have := hi6 j h3; omega, p2⟩
          · have cr' : ¬ (q : Int) < M := by omega
            simp [f0, f3, f4, f5, f15, f17, lL, cr', w1, -roundQ_normal, ↓rq]
            refine stop_intro ⟨l.length - (i + 1), by omega, i + 1, b6, c, a6, v6, L6, rfl, by omega, by simp [f0], by simp [f3], by simp [f4], by simp, smL, WL⟩
    · have cc' : ¬ (i : Int) < l.length := by omega
      have l0 := W.r.l0
      simp [f0, f3, f4, f5, hlg, cc']
      refine WpA.drawnT [0, 3, 4, 5, 6, 1, 2, 7, 8] [[], [0], [0, 1], [], [], [], [], [0, 1, 2, 3, 4, 5, 6]] [[], [0], [0, 1], [], [3], [3, 4], [3, 4, 5], [0, 1, 2, 3, 4, 5, 6], [0, 1, 2, 3, 4, 5, 6, 7]] (by kernel_rfl) (by decide +kernel) (by decide +kernel) (by decide +kernel) ?_
      simp [f0, f3, f4, f5, l0, -load_ptr]
      refine after_call (elist_ev W.e) ?_
      rintro y1 g7 ⟨A7, s7⟩
      have W7 := W.same s7
      have l07 := W7.r.l0
      simp [f4, l07, -load_ptr]
      refine after_call (events_ev ⟨A7.row, fun _ _ => rfl⟩ W.e.len) ?_
      rintro y2 g8 ⟨A8, s8⟩
      have W8 := W7.same s8
      have l08 := W8.r.l0
      simp [f4, l08, -load_ptr]
      refine after_call (rsame_ev ⟨A8.row, fun _ _ => rfl⟩ W8.r.t (by have := W.e.len; omega)) ?_
      rintro y3 g9 ⟨rfl, rfl⟩
      simp [f4, W8.r.l0, -load_ptr]
theorem triggerTakes_ev (h : Hp) (vs : List Value) (dts : List Dt) (hr : RepAll Try.prog h 6 [66] vs dts) : EvA Try.prog 12 vs (fun r _ => r = .bool true) h := by
  obtain ⟨b, vs, e, ds, rfl, rfl, h2, hr⟩ := hr.cons
  rw [hr.nil]
  obtain ⟨l, l1, l2, l3, l4⟩ := h2.slice (e := 68) (z := 3) Tst.cells (fun s => s.id.length ≤ 140737488351232) (by simp) (by kernel_rfl)
    (fun k x d _ hx => by
      obtain ⟨k, hf⟩ := hx.struct (by simp; rfl)
      simp only [RepFs] at hf
      obtain ⟨x0, d0, _, rfl, r0, x1, d1, _, rfl, r1, x2, d2, _, rfl, r2, rfl⟩ := hf
      obtain ⟨n, rfl, _⟩ := r0.int (q := .u8) (by simp)
      obtain ⟨s, rfl, hs⟩ := r1.str (by simp)
      obtain ⟨m, rfl, _⟩ := r2.int (q := .i64) (by simp)
      exact ⟨⟨n, s, m⟩, rfl, hs⟩)
  exact takes29_ev (l1.rows (fun _ _ => rfl) l4) l2 l3
end Go.Proofs.Ytojdhmkjegkfkaa
