/- The law BadgeBack: called, it comes to true; no condition. -/
import Derived.Test.YtaahkamnpobofaaBadgeH
import Derived.Test.YtaahkamnpobofaaLawRises
namespace Go.Proofs.Ytaahkamnpobofaa
open Go.Ab
theorem loadD_ok {l : List UInt8} {last : Int} {L : List Bd} (h : loadD l = some (last, L)) : DeskOk last L ∧ l = saveB last L := by
  unfold loadD at h
  have hc := (cntO_le 2147483647 (some l)).1
  split at h
  · cases h
  · rename_i o M hr
    split at h
    · rename_i ho
      subst ho
      simp only [Option.some.injEq, Prod.mk.injEq] at h
      obtain ⟨h1, rfl⟩ := h
      have hok := readB_ok (by omega) (by omega) _ _ _ _ _ _ (DeskOk.nil (by omega) (by omega)) (Int.le_refl 0) (by simp) hr
      rw [h1] at hok
      refine ⟨hok, ?_⟩
      obtain ⟨L', e1, e2, e3⟩ := readB_bytes _ _ _ _ _ _ hr
      simp only [List.nil_append] at e1
      subst e1
      have q2 := cntO_bytes e3
      have q1 := cntO_bytes q2
      rw [h1, ← e2] at q1
      simpa [saveB] using q1
    · cases h
theorem loadD_more {last : Int} {L : List Bd} (o : DeskOk last L) : loadD (saveB last L ++ [0]) = none := by
  rw [loadD_own o]; simp
theorem saveB_ne {last : Int} {L : List Bd} (o : DeskOk last L) : 0 < (saveB last L).length := by
  have l0 := o.l0
  have l1 := o.l1
  have : 0 < (cntB last).length := by
    rw [cntB_enc l0 l1, enc]
    split <;> simp
  simp [saveB]; omega
theorem loadD_less {last : Int} {L : List Bd} (o : DeskOk last L) : loadD ((saveB last L).take ((saveB last L).length - 1)) = none := by
  cases e : loadD ((saveB last L).take ((saveB last L).length - 1)) with
  | none => rfl
  | some q =>
    obtain ⟨t, M⟩ := q
    obtain ⟨o2, e2⟩ := loadD_ok e
    exfalso
    have hn := saveB_ne o
    have hsp : saveB last L = saveB t M ++ (saveB last L).drop ((saveB last L).length - 1) := by rw [← e2, List.take_append_drop]
    have h1 := loadD_own o []
    rw [List.append_nil, hsp, loadD_own o2, if_neg (by
      intro h0
      have := congrArg List.length h0
      simp only [List.length_drop, List.length_nil] at this
      omega)] at h1
    simp at h1
/-- the rounds ahead, and behind -/
inductive BackInv (g : Hp) (k : Nat) (v w : Value) (l : List St5) (z : Nat) (fr : Fr) (g' : Hp) : Prop
  | mk (i d b : Nat) (T : Int) (L : List Bd) (hz : z = l.length - i) (hi : i ≤ l.length) (hT : T ≤ 100 + i) (f0 : fr 0 = v) (f1 : fr 1 = w) (f5 : fr 5 = .pointer (some ⟨d, 0, none⟩)) (f6 : fr 6 = .int .i64 (i : Nat))
      (r : DeskR g' k d b T L) (sm : Same g g')
inductive BackInv2 (g : Hp) (k : Nat) (v w : Value) (l : List St5) (z : Nat) (fr : Fr) (g' : Hp) : Prop
  | mk (i d b d2 b2 : Nat) (T : Int) (L : List Bd) (hz : z = l.length - i) (hi : i ≤ l.length) (f0 : fr 0 = v) (f1 : fr 1 = w) (f5 : fr 5 = .pointer (some ⟨d, 0, none⟩)) (f11 : fr 11 = .pointer (some ⟨d2, 0, none⟩)) (f17 : fr 17 = .int .i64 (i : Nat))
      (r : DeskR g' k d b T L) (r2 : DeskR g' k d2 b2 T L) (ne : d ≠ d2 ∧ b ≠ b2 ∧ d ≠ b2 ∧ b ≠ d2) (sm : Same g g')
theorem ldS {h : Hp} {c : Nat} {s : St5} (hc : h[c]? = some (.cells [.int .i64 s.k, .int .i64 s.a, .int .i64 s.b, .int .i64 s.c, .int .i64 s.d] false none)) : loadA Try.prog 71 (.pointer (some ⟨c, 0, none⟩)) h = some (.agg #[.int .i64 s.k, .int .i64 s.a, .int .i64 s.b, .int .i64 s.c, .int .i64 s.d]) := by
  simp [loadA, hc]
theorem appBt {k : Nat} {h : Hp} {v : Value} {l : List UInt8} (A : BAcc k h v l) (hk : k ≤ h.length) (hn : l.length ≤ 1000000000) (x : UInt8) :
    ∃ v' h', appendA Try.prog 42 42 v (.slice (some ⟨h.length, 0, none⟩) 1 1) (h ++ [.cells [byteV x] false none]) = some (v', h') ∧ BAcc k h' v' (l ++ [x]) ∧ Upd (inRow v) (h ++ [.cells [byteV x] false none]) h' := by
  obtain ⟨v', h', e1, e2, e3, e4⟩ := Acc.append (P := Try.prog) (t := 42) (tx := 42) (e := 5) (by_ := 1) (dx := .slice 5) (A.same (Same.new [.cells [byteV x] false none])) (by simp; omega) (by simp) (by simp) (by simp) rfl
    (show srcA 1 (.slice (some ⟨h.length, 0, none⟩) 1 1) (h ++ [.cells [byteV x] false none]) = some (1, [byteV x]) by simp [srcA]) (by simp) (by simp [oneA, byteV]) (by omega) (by omega)
  exact ⟨v', h', e1, by simpa [BAcc] using e2, e3⟩
section
variable {h g : Hp} {v w : Value} {l m : List St5} {i : Nat}
set_option maxHeartbeats 8000000 in
set_option maxRecDepth 10000 in
theorem back26_ev (hv : SRow5 h v l) (hw : SRow5 h w m) (hm : ∀ s ∈ m, s.a ≤ 9223372036854775807) :
    EvA Try.prog 8 [v, w] (fun r _ => r = .bool true) h := by
  refine EvA.body Try.func8 rfl (by kernel_rfl) (by simp) ?_
  apply Run.ok
  have wl := SLen hv
  have wm := SLen hw
  simp
  refine after_call (works26_ev _) ?_
  rintro r g ⟨rfl, rfl⟩
  by_cases c0 : 100 < l.length
  · have c0' : (100 : Int) < l.length := by omega
    simp [wl, c0']
    refine after_call (works26_ev _) ?_
    rintro r g ⟨rfl, rfl⟩
    simp
  have c0' : ¬ (100 : Int) < l.length := by omega
  by_cases c1 : 100 < m.length
  · have c1' : (100 : Int) < m.length := by omega
    simp [wl, c0', wm, c1']
    refine after_call (works26_ev _) ?_
    rintro r g ⟨rfl, rfl⟩
    simp
  have c1' : ¬ (100 : Int) < m.length := by omega
  simp [wl, c0', wm, c1']
  refine after_call (new26_ok _ (by omega) (by omega)) ?_
  rintro x g0 ⟨rfl, r, sm⟩
  obtain ⟨k, hk⟩ : ∃ k, k = g.length := ⟨_, rfl⟩
  rw [← hk] at r ⊢
  have hk2 : k + 1 < g0.length := r.lt.1
  simp
  refine WpA.loop (BackInv g k v w l) (k := l.length) ⟨0, k + 1, k, 100, [], by simp, by omega, by omega, by simp, by simp, by simp, by simp, r, sm⟩ ?_
  clear r sm
  rintro z fr g' ⟨i, d, b, T, L, rfl, hi, hT, f0, f1, f5, f6, r, sm⟩
  apply Run.ok
  have wl' := SLen (hv.same sm)
  by_cases c : i < l.length
  · have c' : (i : Int) < l.length := by omega
    have w3 : IntKind.i64.wrap ((i : Int) + 1) = (i : Int) + 1 := wrap_i64 (by omega) (by omega)
    have ia := SIA (hv.same sm) c
    have ag := SAG (hv.same sm) c
    simp [f0, f5, f6, wl', c', ia, ag, -load_ptr]
    refine after_call (do_ev r l[i]) ?_
    rintro x g3 ⟨d', b', rfl, r3, u3, hdb⟩
    have sm3 : Same g g3 := Upd.trans sm u3 fun j hj e => by have := r.kd; have := r.kb; omega
    have hTT := doT_le (last := T) L l[i]
    simp [f6, w3, -roundQ_normal, ↓rq]
    exact stop_intro ⟨l.length - (i + 1), by omega, i + 1, d', b', _, _, rfl, by omega, by omega, by simp [f0], by simp [f1], by simp, by simp, r3, sm3⟩
  have c' : ¬ (i : Int) < l.length := by omega
  simp [f0, f5, f6, wl', c', -load_ptr]
  refine after_call (save_ev r) ?_
  rintro bv g1 ⟨B, s1⟩
  have r1 := r.same s1
  have sm1 := sm.trans s1
  have few := r.ok.few
  have hsl := saveB_len T L
  have hne := saveB_ne r.ok
  simp
  refine after_call (load_ev (BAcc.bytes B) (by omega)) ?_
  rintro x g2 ⟨s2, hq⟩
  have ho := loadD_own r.ok []
  simp only [List.append_nil, if_true] at ho
  rw [ho] at hq
  obtain ⟨d2, b2, rfl, r2⟩ := hq
  have B2 := B.same s2
  have ra := r1.same s2
  have sm2 := sm1.trans s2
  obtain ⟨v', q1, q2, q3⟩ := SlB.hi (P := Try.prog) (t := 42) (e := 5) (k := .i64) (m := (saveB T L).length - 1) (BAcc.sl B2) (by simp) (by simp) (by omega)
  have q1' : sliceA Try.prog 42 bv none (some (.int .i64 (((saveB T L).length : Nat) - 1 : Int))) none g2 = some v' := by
    rw [show (((saveB T L).length : Nat) - 1 : Int) = (((saveB T L).length - 1 : Nat) : Int) by omega]
    exact q1 _ Same.refl
  have wb : IntKind.i64.wrap (((saveB T L).length : Int) - 1) = ((saveB T L).length : Int) - 1 := wrap_i64 (by omega) (by omega)
  have lb := (BAcc.bytes B2).len (P := Try.prog) (t := 42) (e := 5) (by simp)
  simp [lb, wb, q1', -load_ptr]
  refine after_call (load_ev (SlB.bytes q2) (by simp; omega)) ?_
  rintro x g4 ⟨s4, hq⟩
  rw [loadD_less r.ok] at hq
  subst hq
  obtain ⟨v5, g5, e5, A5, s45, _⟩ := Acc.appendLit (P := Try.prog) (h := g4 ++ [.cells [] false none]) (z := 1) (k := g4.length) (b := g4.length) (t := 42) (tx := 42) (e := 5) (by_ := 1) (dx := .slice 5) (Nat.le_refl _) (by simp) (by simp) (by simp) (by simp) rfl ((BAcc.bytes (B2.same s4)).same (Same.new _)).2.1 (by simp) (by omega) (by omega)
  have s5 : Same g4 g5 := Same.trans (Same.new _) s45
  obtain ⟨v6, g6, e6, A6, u6⟩ := appBt A5 (by have := s5.len; omega) (by omega) 0
  have sx : Same g5 (g5 ++ [.cells [byteV 0] false none]) := Same.new _
  have s6 : Same g4 g6 := Upd.trans (s5.trans sx) u6 fun j hj e => by have := (A5.above j e).1; omega
  have e6' : appendA Try.prog 42 42 v5 (.slice (some ⟨g5.length, 0, none⟩) 1 1) (g5 ++ [.cells [.int .u8 0] false none]) = some (v6, g6) := e6
  simp [zeros, spl, capO, e5, e6']
  refine after_call (load_ev (BAcc.bytes A6) (by simp; omega)) ?_
  rintro x g7 ⟨s7, hq⟩
  rw [loadD_more r.ok] at hq
  subst hq
  have sm7 : Same g2 g7 := (s4.trans s6).trans s7
  have rz := ra.same sm7
  have rz2 := r2.same sm7
  have smz := sm2.trans sm7
  have hd1 := r1.lt
  have hd2 := r2.kd
  have hd3 := r2.kb
  have rz2' : DeskR g7 k d2 b2 T L := rz2.weak (by have := r.kd; omega)
  simp
  refine WpA.loop (BackInv2 g k v w m) (k := m.length) ⟨0, d, b, d2, b2, T, L, by simp, by omega, by simp [f0], by simp [f1], by simp [f5], by simp, by simp, rz, rz2', ⟨by omega, by omega, by omega, by omega⟩, smz⟩ ?_
  clear r sm r1 sm1 r2 ra sm2 rz rz2 smz rz2' hd1 hd2 hd3 f0 f1 f5 f6 B B2 s7 s4 s1 s2 sm7 s5 s6 sx u6 e6 e6' e5 A5 A6 s45 q1 q1' q2 q3 lb wb ho hsl hne few c c' wl'
  rintro z fr gA ⟨i, d, b, d2, b2, T, L, rfl, hi, f0, f1, f5, f11, f17, r, r2, ne, sm⟩
  apply Run.ok
  have wm' := SLen (hw.same sm)
  by_cases c : i < m.length
  · have c' : (i : Int) < m.length := by omega
    have w3 : IntKind.i64.wrap ((i : Int) + 1) = (i : Int) + 1 := wrap_i64 (by omega) (by omega)
    have ia := SIA (hw.same sm) c
    have ag := SAG (hw.same sm) c
    have sn : Same gA (gA ++ [Blk.cells [.int .i64 m[i].k, .int .i64 m[i].a, .int .i64 m[i].b, .int .i64 m[i].c, .int .i64 m[i].d] false none]) := Same.new _
    have hn : (gA ++ [Blk.cells [.int .i64 m[i].k, .int .i64 m[i].a, .int .i64 m[i].b, .int .i64 m[i].c, .int .i64 m[i].d] false none])[gA.length]? = some (Blk.cells [.int .i64 m[i].k, .int .i64 m[i].a, .int .i64 m[i].b, .int .i64 m[i].c, .int .i64 m[i].d] false none) := by simp
    obtain ⟨gB, hB⟩ : ∃ gB, gB = gA ++ [Blk.cells [.int .i64 m[i].k, .int .i64 m[i].a, .int .i64 m[i].b, .int .i64 m[i].c, .int .i64 m[i].d] false none] := ⟨_, rfl⟩
    rw [← hB] at sn hn
    have rB := r.same sn
    have rB2 := r2.same sn
    have lB := rB.lt
    have lB2 := rB2.lt
    have lA := r.lt
    have lA2 := r2.lt
    have hgn := hp_lt hn
    simp [f1, f5, f17, wm', c', ia, ag, ← hB, spl, -load_ptr]
    have hsa := hm m[i] (List.getElem_mem _)
    generalize m[i] = s at hn hB ag hsa
    have ls := ldS hn
    simp [ls, -load_ptr]
    refine after_call (do_ev rB s) ?_
    rintro x gC ⟨d', b', rfl, rC, uC, hdb⟩
    have lC := rC.lt
    have uCl := uC.len
    have rC2 := rB2.upd uC (by omega) (by omega)
    have hnC := uC.at hn (by omega)
    have smC : Same g gC := Upd.trans (sm.trans sn) uC fun j hj e => by have := r.kd; have := r.kb; omega
    have ls := ldS hnC
    simp [ls, f11, -load_ptr]
    refine after_call (do_ev rC2 s) ?_
    rintro x gD ⟨d2', b2', rfl, rD2, uD, hdb2⟩
    have lD2 := rD2.lt
    have uDl := uD.len
    have rD := rC.upd uD (by omega) (by omega)
    have hnD := uD.at hnC (by omega)
    have smD : Same g gD := Upd.trans smC uD fun j hj e => by have := r2.kd; have := r2.kb; omega
    have neD : d' ≠ d2' ∧ b' ≠ b2' ∧ d' ≠ b2' ∧ b' ≠ d2' := by omega
    have nkC : d2' ≠ gA.length ∧ b2' ≠ gA.length ∧ d' ≠ gA.length ∧ b' ≠ gA.length := by omega
    have few := rD.ok.few
    clear rB rB2 rC rC2 uC uD hn hnC lC lB lB2 lA lA2 r r2 ls smC hdb hdb2
    generalize doT T L s = T' at rD rD2
    generalize doL T L s = L' at rD rD2 few
    obtain ⟨n', hn'⟩ : ∃ n', n' = doN T L s := ⟨_, rfl⟩
    rw [← hn']
    simp [-load_ptr]
    refine WpA.drawnT [0, 1, 2, 3, 4, 5, 6, 7, 8, 9, 10, 11, 12, 15, 13, 14, 16, 17, 18, 19, 20, 21, 22, 23, 24, 25, 27, 28, 29, 30, 31, 26, 32, 33, 34, 35] [[], [], [], [], [], [], [], [], [], [], [], [], [], [0, 1, 2, 3, 4, 5, 6, 7, 8, 9, 10, 11, 12], [], [], [0, 1, 2, 3, 4, 5, 6, 7, 8, 9, 10, 11, 12, 13, 15], [], [], [], [], [], [], [], [], [], [0, 1, 2, 3, 4, 5, 6, 7, 8, 9, 10, 11, 12, 13, 14, 15, 16, 17, 18, 19, 20, 21, 22, 23, 24, 25], [], [], [], [], [], [0, 1, 2, 3, 4, 5, 6, 7, 8, 9, 10, 11, 12, 13, 14, 15, 16, 17, 18, 19, 20, 21, 22, 23, 24, 25, 26, 27, 28, 29, 30, 31], [0, 1, 2, 3, 4, 5, 6, 7, 8, 9, 10, 11, 12, 13, 14, 15, 16, 17, 18, 19, 20, 21, 22, 23, 24, 25, 26, 27, 28, 29, 30, 31, 32]] [[], [], [0, 1], [0, 1, 2], [0, 1, 2, 3], [0, 1, 2, 3, 4], [0, 1, 2, 3, 4, 5], [0, 1, 2, 3, 4, 5, 6], [0, 1, 2, 3, 4, 5, 6, 7], [0, 1, 2, 3, 4, 5, 6, 7, 8], [0, 1, 2, 3, 4, 5, 6, 7, 8, 9], [0, 1, 2, 3, 4, 5, 6, 7, 8, 9, 10], [0, 1, 2, 3, 4, 5, 6, 7, 8, 9, 10, 11], [0, 1, 2, 3, 4, 5, 6, 7, 8, 9, 10, 11, 12], [0, 1, 2, 3, 4, 5, 6, 7, 8, 9, 10, 11, 12, 13], [0, 1, 2, 3, 4, 5, 6, 7, 8, 9, 10, 11], [0, 1, 2, 3, 4, 5, 6, 7, 8, 9, 10, 11, 12, 13, 15], [0, 1, 2, 3, 4, 5, 6, 7, 8, 9, 10, 11, 12, 13, 15, 16], [0, 1, 2, 3, 4, 5, 6, 7, 8, 9, 10, 11, 12, 13, 14, 15, 16, 17], [0, 1, 2, 3, 4, 5, 6, 7, 8, 9, 10, 11, 12, 13, 14, 15, 16, 17, 18], [0, 1, 2, 3, 4, 5, 6, 7, 8, 9, 10, 11, 12, 13, 14, 15, 16, 17, 18, 19], [0, 1, 2, 3, 4, 5, 6, 7, 8, 9, 10, 11, 12, 13, 14, 15, 16, 17, 18, 19, 20], [0, 1, 2, 3, 4, 5, 6, 7, 8, 9, 10, 11, 12, 13, 14, 15, 16, 17, 18, 19, 20], [0, 1, 2, 3, 4, 5, 6, 7, 8, 9, 10, 11, 12, 13, 14, 15, 16, 17, 18, 19, 20, 22], [0, 1, 2, 3, 4, 5, 6, 7, 8, 9, 10, 11, 12, 13, 14, 15, 16, 17, 18, 19, 20], [0, 1, 2, 3, 4, 5, 6, 7, 8, 9, 10, 11, 12, 13, 14, 15, 16, 17, 18, 19, 20, 24], [0, 1, 2, 3, 4, 5, 6, 7, 8, 9, 10, 11, 12, 13, 14, 15, 16, 17, 18, 19, 20, 21, 22, 23, 24, 25], [0, 1, 2, 3, 4, 5, 6, 7, 8, 9, 10, 11, 12, 13, 14, 15, 16, 17, 18, 19, 20], [0, 1, 2, 3, 4, 5, 6, 7, 8, 9, 10, 11, 12, 13, 14, 15, 16, 17, 18, 19, 20], [0, 1, 2, 3, 4, 5, 6, 7, 8, 9, 10, 11, 12, 13, 14, 15, 16, 17, 18, 19, 20, 28], [0, 1, 2, 3, 4, 5, 6, 7, 8, 9, 10, 11, 12, 13, 14, 15, 16, 17, 18, 19, 20], [0, 1, 2, 3, 4, 5, 6, 7, 8, 9, 10, 11, 12, 13, 14, 15, 16, 17, 18, 19, 20, 30], [0, 1, 2, 3, 4, 5, 6, 7, 8, 9, 10, 11, 12, 13, 14, 15, 16, 17, 18, 19, 20, 21, 22, 23, 24, 25, 26, 27, 28, 29, 30, 31], [0, 1, 2, 3, 4, 5, 6, 7, 8, 9, 10, 11, 12, 13, 14, 15, 16, 17, 18, 19, 20, 21, 22, 23, 24, 25, 26, 27, 28, 29, 30, 31, 32], [0, 1, 2, 3, 4, 5, 6, 7, 8, 9, 10, 11, 12, 13, 14, 15, 16, 17, 18, 19, 20, 21, 22, 23, 24, 25, 26, 27, 28, 29, 30, 31, 32, 33], [0, 1, 2, 3, 4, 5, 6, 7, 8, 9, 10, 11, 12, 13, 14, 15, 16, 17, 18, 19, 20, 21, 22, 23, 24, 25, 26, 27, 28, 29, 30, 31, 32, 33, 34]] (by kernel_rfl) (by decide +kernel) (by decide +kernel) (by decide +kernel) ?_
    simp [-load_ptr]
    refine after_call (save_ev rD) ?_
    rintro v1 gE ⟨E1, sE⟩
    have rE2 := rD2.same sE
    have cE := (BAcc.bytes E1).str (P := Try.prog) (t := 42) (u := 9) (e := 5) (by simp) (by simp) (by simp)
    simp [cE, -load_ptr]
    refine after_call (save_ev rE2) ?_
    rintro v2 gF ⟨E2, sF⟩
    have cF := (BAcc.bytes E2).str (P := Try.prog) (t := 42) (u := 9) (e := 5) (by simp) (by simp) (by simp)
    have rF := (rD.same sE).same sF
    have rF2 := rE2.same sF
    have hnF := (sE.trans sF).at hnD
    have k1 := load_at (P := Try.prog) (t := 3) (o := 1) hnF (by simp)
    have k2 := load_at (P := Try.prog) (t := 3) (o := 2) hnF (by simp)
    simp only [List.getElem?_cons_zero, List.getElem?_cons_succ] at k1 k2
    have smF := (smD.trans sE).trans sF
    have cE' := (BAcc.bytes (E1.same sF)).str (P := Try.prog) (t := 42) (u := 9) (e := 5) (by simp) (by simp) (by simp)
    simp [cF, cE', k1, k2, -load_ptr]
    refine after_call (expired_ev rF s.a s.b hsa) ?_
    rintro v3 gG ⟨A3, sG⟩
    have rG2 := rF2.same sG
    have k1 := load_at (P := Try.prog) (t := 3) (o := 1) (sG.at hnF) (by simp)
    have k2 := load_at (P := Try.prog) (t := 3) (o := 2) (sG.at hnF) (by simp)
    simp only [List.getElem?_cons_zero, List.getElem?_cons_succ] at k1 k2
    simp [k1, k2, -load_ptr]
    refine after_call (expired_ev rG2 s.a s.b hsa) ?_
    rintro v4 gH ⟨A4, sH⟩
    have hle : (lateL L' s.a s.b).length ≤ 4 := by
      have := lateF_le L' s.a s.b
      by_cases c : s.b < 1
      · simp [lateL, c]
      · rw [show lateL L' s.a s.b = lateF L' s.a s.b by unfold lateL; rw [if_neg c]; rfl]; omega
    simp
    refine after_call (ints26_ev (A3.same sH).row A4.row (by omega)) ?_
    rintro w5 gI ⟨rfl, rfl⟩
    have smI := (smF.trans sG).trans sH
    have rI := (rF.same sG).same sH
    have rI2 := rG2.same sH
    simp [f17, w3, -roundQ_normal, ↓rq]
    exact stop_intro ⟨m.length - (i + 1), by omega, i + 1, d', b', d2', b2', _, _, rfl, by omega, by simp [f0], by simp [f1], by simp, by simp, by simp, rI, rI2.weak (by omega), neD, smI⟩
  · have c' : ¬ (i : Int) < m.length := by omega
    simp [f1, f17, wm', c', -load_ptr]
end
theorem St5.of {h : Hp} {k : Nat} {x : List Value} {d : Dt} (hx : Rep Try.prog h k 71 x d) :
    ∃ s : St5, x = s.cells ∧ s.a ≤ 9223372036854775807 ∧ -9223372036854775808 ≤ s.a := by
  obtain ⟨k, hf⟩ := hx.struct (by simp; rfl)
  simp only [RepFs] at hf
  obtain ⟨x0, d0, _, rfl, r0, x1, d1, _, rfl, r1, x2, d2, _, rfl, r2, x3, d3, _, rfl, r3, x4, d4, _, rfl, r4, rfl⟩ := hf
  obtain ⟨n0, rfl, _⟩ := r0.int (q := .i64) (by simp)
  obtain ⟨n1, rfl, q1, q2⟩ := r1.int (q := .i64) (by simp)
  obtain ⟨n2, rfl, _⟩ := r2.int (q := .i64) (by simp)
  obtain ⟨n3, rfl, _⟩ := r3.int (q := .i64) (by simp)
  obtain ⟨n4, rfl, _⟩ := r4.int (q := .i64) (by simp)
  exact ⟨⟨n0, n1, n2, n3, n4⟩, rfl, q2, q1⟩
theorem badgeBack_ev (h : Hp) (vs : List Value) (dts : List Dt) (hr : RepAll Try.prog h 6 [67, 67] vs dts) : EvA Try.prog 8 vs (fun r _ => r = .bool true) h := by
  obtain ⟨a, vs, d, ds, rfl, rfl, h1, hr⟩ := hr.cons
  obtain ⟨b, vs, e, ds, rfl, rfl, h2, hr⟩ := hr.cons
  rw [hr.nil]
  have key : ∀ k x d, True → Rep Try.prog h k 71 x d → ∃ s : St5, x = s.cells ∧ s.a ≤ 9223372036854775807 := by
    intro k x d _ hx
    obtain ⟨s, e, q, _⟩ := St5.of hx
    exact ⟨s, e, q⟩
  obtain ⟨l, l1, l2, l3, l4⟩ := h1.slice (e := 71) (z := 5) St5.cells (fun s => s.a ≤ 9223372036854775807) (by simp) (by kernel_rfl) (fun k x d hh hx => key k x d trivial hx)
  obtain ⟨m, m1, m2, m3, m4⟩ := h2.slice (e := 71) (z := 5) St5.cells (fun s => s.a ≤ 9223372036854775807) (by simp) (by kernel_rfl) (fun k x d hh hx => key k x d trivial hx)
  exact back26_ev (l1.rows (fun _ _ => rfl) l4) (m1.rows (fun _ _ => rfl) m4) m3
end Go.Proofs.Ytaahkamnpobofaa
