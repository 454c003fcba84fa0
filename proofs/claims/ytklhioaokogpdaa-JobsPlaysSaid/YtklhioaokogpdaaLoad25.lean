/- jobs.Load: the jobs of any bytes; no condition. -/
import Derived.Test.YtklhioaokogpdaaCould
import Derived.Test.YtklhioaokogpdaaStandsB
namespace Go.Proofs.Ytklhioaokogpdaa
open Go.Ab
theorem readJ_ok (m1 m2 : Int) (h1 : 0 ≤ m1 ∧ m1 ≤ 255) : ∀ n o, ∀ x ∈ (readJ m1 m2 n o).2, ValOk x := by
  intro n
  induction n with
  | zero => intro o x hx; simp [readJ] at hx
  | succ n ih =>
    intro o x hx
    simp only [readJ] at hx
    rcases List.mem_cons.1 hx with rfl | hx
    · have g1 := (cntO_le m1 o).2 h1.1
      have g2 := (cntO_le m2 (cntO m1 o).2).1
      have g3 := (cntO_le 2147483647 (cntO m2 (cntO m1 o).2).2).1
      have g4 := (cntO_le 2147483647 (cntO 2147483647 (cntO m2 (cntO m1 o).2).2).2).1
      have g5 := (cntO_le 999 (cntO 2147483647 (cntO 2147483647 (cntO m2 (cntO m1 o).2).2).2).2).1
      exact ⟨by show (cntO m1 o).1 ≤ 255; omega, by simp only; omega, by simp only; omega, by simp only; omega, by simp only; omega⟩
    · exact ih _ x hx
theorem take_set_succ {α : Type} (l : List α) (i : Nat) (y : α) (hi : i < l.length) : (l.set i y).take (i + 1) = l.take i ++ [y] := by
  rw [List.take_add_one, List.getElem?_set_self hi, List.take_set_of_le (Nat.le_refl _)]; rfl
set_option maxHeartbeats 4000000 in
set_option maxRecDepth 6000 in
theorem jload_ev {h : Hp} {v w : Value} {ps : List Pj} {bs : List UInt8} (p : PlanR h v ps) (hw : Bytes h w bs) (hb : bs.length ≤ 1000000) :
    EvA Try.prog 47 [.agg #[v], w] (fun r h' => Same h h' ∧ ((mayP ps = false ∧ r = .tuple #[.pointer none, .int .i64 1]) ∨
      (mayP ps = true ∧ ∃ js, Conv ps js ∧ ((∃ b jv lv L, IsJs js bs L ∧ r = .tuple #[.pointer (some ⟨b, 0, none⟩), .int .i64 0] ∧ JM h' h.length b jv lv js L) ∨ ((∀ L, ¬ IsJs js bs L) ∧ r = .tuple #[.pointer none, .int .i64 4]))))) h := by
  refine EvA.body Try.func47 rfl (by kernel_rfl) (by simp) ?_
  apply Run.ok
  have hcv := (Row.one p.row.1).1
  have hov := (Row.one p.row.1).2
  simp [hcv, hov]
  have s1 : Same h (h ++ [.cells [v] false none]) := Same.new _
  have hB : (h ++ [Blk.cells [v] false none])[h.length]? = some (.cells [v] false none) := by simp
  have hl1 : (h ++ [Blk.cells [v] false none]).length = h.length + 1 := by simp
  generalize h ++ [Blk.cells [v] false none] = h1 at s1 hB hl1 ⊢
  have l1 : ∀ g, Same h1 g → loadA Try.prog 50 (.pointer (some ⟨h.length, 0, none⟩)) g = some (.agg #[v]) := fun g s => by simp [s.at hB]
  refine after_call (may_ev (p.same s1)) ?_
  rintro r h2 ⟨rfl, s2⟩
  cases hm : mayP ps with
  | false =>
    simp
    exact s1.trans s2
  | true =>
    simp [l1 _ s2, -load_ptr]
    refine after_call (blank_ev (p.same (s1.trans s2)) hm) ?_
    rintro r h3 ⟨s3, b, jv, lv, js, rfl, m, cv⟩
    have sm3 := (s1.trans s2).trans s3
    simp
    refine after_call (newReader_o (hw.same sm3) (by omega)) ?_
    rintro r h4 ⟨rfl, R4, s4⟩
    have m4 := m.same s4
    have sm4 := sm3.trans s4
    have hown : ∀ j, ownJ b jv lv js j → h2.length ≤ j ∧ j < h3.length := fun j hj => m.lo hj
    have hh2 := s2.len
    have hht := sm3.len
    have ht : ∀ k, k < js.length → (js.getD k Jb.no).tries ≤ 5 := fun k hk => (cv.tries hm k hk).2
    obtain ⟨rb, hrb⟩ : ∃ rb, rb = h3.length := ⟨_, rfl⟩
    rw [← hrb] at R4 hown ⊢
    have l04 := m4.l0
    have tl4 := m4.tl
    rw [List.length_replicate] at tl4
    simp [l04, tl4, -load_ptr]
    refine WpA.loop (fun z fr g => ∃ (i : Nat) (o : Option (List UInt8)) (L : List St), z = js.length - i ∧ i ≤ js.length ∧ fr 6 = .pointer (some ⟨b, 0, none⟩) ∧ fr 7 = .pointer (some ⟨rb, 0, none⟩) ∧ fr 21 = .int .i64 (js.length : Nat) ∧ fr 22 = .int .i64 (i : Nat) ∧ Same h g ∧ JM g h2.length b jv lv js L ∧ RdrO g rb o ∧ readJ 11 5 js.length (some bs) = ((readJ 11 5 (js.length - i) o).1, L.take i ++ (readJ 11 5 (js.length - i) o).2))
      (k := js.length) ⟨0, _, _, by simp, by omega, by simp, by simp, by simp, by simp, sm4, m4, R4, by simp⟩ ?_
    clear l04 tl4 m4 R4 sm4 s4
    rintro z fr g ⟨i, o, L, rfl, hi, f6, f7, f21, f22, sm, M, R, hrd⟩
    apply Run.ok
    have hL := M.len
    have h24 := M.short
    by_cases d : i < js.length
    · have d' : (i : Int) < js.length := by omega
      have wi : IntKind.i64.wrap ((i : Int) + 1) = (i : Int) + 1 := wrap_i64 (by omega) (by omega)
      have hiL : i < L.length := by omega
      have ia := M.ia hiL .i64
      have l0 := M.l0
      rw [show js.length - i = (js.length - (i + 1)) + 1 by omega] at hrd
      simp only [readJ] at hrd
      have keep : ∀ {g g' : Hp} {L : List St}, JM g h2.length b jv lv js L → Upd (· = rb) g g' → JM g' h2.length b jv lv js L := fun M u => M.upd u fun j hj e => by have := hown j hj; omega
      have keepS : ∀ {g g' : Hp}, Same h g → Upd (· = rb) g g' → Same h g' := fun s u => Upd.trans s u fun j hj e => by omega
      simp [f6, f7, f21, f22, d', -load_ptr]
      refine WpA.drawnT [0, 1, 2, 3, 4, 5, 8, 10, 12, 14, 16, 6, 7, 9, 11, 13, 15, 17, 18, 19, 20] [[], [], [], [], [], [], [5], [], [], [5, 6, 8], [], [5, 6, 8, 9, 10], [], [5, 6, 8, 9, 10, 11, 12], [], [5, 6, 8, 9, 10, 11, 12, 13, 14], [], [5, 6, 8, 9, 10, 11, 12, 13, 14, 15, 16], [], [], [0, 1, 2, 3, 4, 5, 6, 7, 8, 9, 10, 11, 12, 13, 14, 15, 16, 17, 18, 19]] [[], [0], [0, 1], [0, 1, 2], [], [], [5], [5, 6], [], [5, 6, 8], [], [5, 6, 8, 9, 10], [], [5, 6, 8, 9, 10, 11, 12], [], [5, 6, 8, 9, 10, 11, 12, 13, 14], [], [5, 6, 8, 9, 10, 11, 12, 13, 14, 15, 16], [5, 6, 7, 8, 9, 10, 11, 12, 13, 14, 15, 16, 17], [0, 1, 2, 3, 4, 5, 6, 7, 8, 9, 10, 11, 12, 13, 14, 15, 16, 17, 18], [0, 1, 2, 3, 4, 5, 6, 7, 8, 9, 10, 11, 12, 13, 14, 15, 16, 17, 18, 19]] (by kernel_rfl) (by decide +kernel) (by decide +kernel) (by decide +kernel) ?_
      simp [f6, f7, l0, -load_ptr]
      refine after_call (count_o 11 R) ?_
      rintro r1 g1 ⟨rfl, R1, u1⟩
      have M1 := keep M u1
      have sm1 := keepS sm u1
      have hle := (cntO_le 11 o).2 (by omega)
      generalize (cntO 11 o) = co at R1 hrd hle ⊢
      obtain ⟨n1, o1⟩ := co
      simp only at R1 hrd hle ⊢
      have l01 := M1.l0
      have w8 : IntKind.u8.wrap (n1 : Int) = (n1 : Int) := wrap_u8 (by omega) (by omega)
      simp [f6, f7, l01, w8, -load_ptr]
      refine after_call (count_o 5 R1) ?_
      rintro r2 g2 ⟨rfl, R2, u2⟩
      have M2 := keep M1 u2
      have sm2 := keepS sm1 u2
      generalize (cntO 5 o1) = co at R2 hrd ⊢
      obtain ⟨n2, o2⟩ := co
      simp only at R2 hrd ⊢
      have l02 := M2.l0
      simp [f6, f7, l02, w8, -load_ptr]
      refine after_call (count_o 2147483647 R2) ?_
      rintro r3 g3 ⟨rfl, R3, u3⟩
      have M3 := keep M2 u3
      have sm3 := keepS sm2 u3
      generalize (cntO 2147483647 o2) = co at R3 hrd ⊢
      obtain ⟨n3, o3⟩ := co
      simp only at R3 hrd ⊢
      have l03 := M3.l0
      simp [f6, f7, l03, w8, -load_ptr]
      refine after_call (count_o 2147483647 R3) ?_
      rintro r4 g4 ⟨rfl, R4, u4⟩
      have M4 := keep M3 u4
      have sm4 := keepS sm3 u4
      generalize (cntO 2147483647 o3) = co at R4 hrd ⊢
      obtain ⟨n4, o4⟩ := co
      simp only at R4 hrd ⊢
      have l04 := M4.l0
      simp [f6, f7, l04, w8, -load_ptr]
      refine after_call (count_o 999 R4) ?_
      rintro r5 g5 ⟨rfl, R5, u5⟩
      have M5 := keep M4 u5
      have sm5 := keepS sm4 u5
      generalize (cntO 999 o4) = co at R5 hrd ⊢
      obtain ⟨n5, o5⟩ := co
      simp only at R5 hrd ⊢
      have l05 := M5.l0
      simp [f6, f7, l05, w8, -load_ptr]
      refine after_call (flag_o R5) ?_
      rintro r6 g6 ⟨rfl, R6, u6⟩
      have M6 := keep M5 u6
      have sm6 := keepS sm5 u6
      generalize (cntO 1 o5) = co at R6 hrd ⊢
      obtain ⟨n6, o6⟩ := co
      simp only at R6 hrd ⊢
      generalize hfl : (n6 == 1) = fl at hrd ⊢
      have l06 := M6.l0
      obtain ⟨g7, q1, q2, q3⟩ := M6.sta hiL ⟨n1, n2, n3, n4, n5, fl⟩
      simp only [stA_cells] at q1
      have R7 : RdrO g7 rb o6 := R6.upd q3 fun hin => by have := hown rb (.inr (.inr (.inl hin))); omega
      have sm7 : Same h g7 := Upd.trans sm6 q3 fun j hj hin => by have := hown j (.inr (.inr (.inl hin))); omega
      simp [f6, f7, f21, f22, l06, w8, ia, q1, wi, -load_ptr, -store_ptr, -roundQ_normal, ↓rq]
      refine stop_intro ⟨js.length - (i + 1), by omega, i + 1, o6, _, rfl, by omega, by simp [f6], by simp [f7], by simp [f21], by simp, sm7, q2, R7, ?_⟩
      rw [hrd, take_set_succ L i _ hiL, List.append_assoc]; rfl
    · have d' : ¬ (i : Int) < js.length := by omega
      have hij : i = js.length := by omega
      subst hij
      rw [Nat.sub_self, List.take_of_length_le (by omega)] at hrd
      simp only [readJ, List.append_nil] at hrd
      simp [f6, f7, f21, f22]
      refine after_call (done_o R) ?_
      rintro r g ⟨rfl, rfl⟩
      by_cases ho : o = some []
      · rw [decide_eq_true ho]
        subst ho
        have hval := readJ_ok 11 5 (by omega) js.length (some bs)
        rw [hrd] at hval
        have l0 := M.l0
        have tl := M.tl
        rw [hL] at tl
        simp [f6, l0, tl, -load_ptr]
        refine WpA.loop (fun z fr g' => ∃ (k : Nat), z = js.length - k ∧ k ≤ js.length ∧ fr 6 = .pointer (some ⟨b, 0, none⟩) ∧ fr 53 = .int .i64 (js.length : Nat) ∧ fr 54 = .int .i64 (k : Nat) ∧ Same g g' ∧ ∀ q, q < k → couldP (js.getD q Jb.no) L (L.getD q St.no) = true)
          (k := js.length) ⟨0, by simp, by omega, by simp [f6], by simp, by simp, Same.refl, fun q hq => by omega⟩ ?_
        clear f6 f7 f21 f22 l0 tl
        rintro z fr g2 ⟨k, rfl, hk, f6, f53, f54, s2', hall⟩
        apply Run.ok
        have M2 := M.same s2'
        by_cases e : k < js.length
        · have e' : (k : Int) < js.length := by omega
          have wk : IntKind.i64.wrap ((k : Int) + 1) = (k : Int) + 1 := wrap_i64 (by omega) (by omega)
          have hkL : k < L.length := by omega
          have hvk : ValOk (L.getD k St.no) := by rw [← getD_at L St.no hkL]; exact hval _ (List.getElem_mem hkL)
          simp [f6, f53, f54, e', -load_ptr]
          refine after_call (could_ev M2 k hkL hvk.2.2.2.2.1) ?_
          rintro r g3 ⟨rfl, s3'⟩
          rcases Bool.eq_false_or_eq_true (couldP (js.getD k Jb.no) L (L.getD k St.no)) with hc | hc
          · rw [hc]
            simp [f6, f53, f54, wk, -roundQ_normal, ↓rq]
            refine stop_intro ⟨js.length - (k + 1), by omega, k + 1, rfl, by omega, by simp [f6], by simp [f53], by simp, s2'.trans s3', fun q hq => ?_⟩
            rcases Nat.lt_or_ge q k with h1 | h1
            · exact hall q h1
            · rw [show q = k by omega]; exact hc
          · rw [hc]
            simp
            refine ⟨(sm.trans s2').trans s3', js, cv, fun L' hL' => ?_⟩
            have hi2 := (isJs_iff ht bs L').2 hL'
            rw [hrd] at hi2
            simp only [Prod.mk.injEq, true_and] at hi2
            have := hi2.2 k e
            rw [← hi2.1, hc] at this
            cases this
        · have e' : ¬ (k : Int) < js.length := by omega
          simp [f6, f53, f54, e']
          refine ⟨sm.trans s2', js, cv, b, jv, lv, L, (isJs_iff ht bs L).1 ⟨hrd, fun q hq => hall q (by omega)⟩, rfl, ?_⟩
          exact ⟨M2.at_, by have := M2.kb; omega, Acc.down (by omega) M2.jr, fun y hy => Acc.down (by omega) (M2.nr y hy), Acc.down (by omega) M2.lw, M2.dj, M2.djb, M2.djn, M2.len, M2.wf, M2.short, M2.few⟩
      · rw [decide_eq_false ho]
        simp
        refine ⟨sm, js, cv, fun L' hL' => ?_⟩
        have hi2 := (isJs_iff ht bs L').2 hL'
        rw [hrd] at hi2
        simp only [Prod.mk.injEq] at hi2
        exact ho hi2.1.1
end Go.Proofs.Ytklhioaokogpdaa
