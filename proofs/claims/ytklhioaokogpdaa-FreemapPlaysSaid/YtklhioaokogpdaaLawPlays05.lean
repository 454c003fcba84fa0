/- The law FreemapPlays: called, it comes to true; no condition. -/
import Derived.Test.YtklhioaokogpdaaLawLoads05
namespace Go.Proofs.Ytklhioaokogpdaa
open Go.Ab Go.Free
structure Stp where
  kind : Int
  n : Int
def Stp.cells (s : Stp) : List Value := [.int .i64 s.kind, .int .i64 s.n]
theorem FM.same {h h' : Hp} {k b : Nat} {v : Value} {T : List Bool} (m : FM h k b v T) (u : Same h h') : FM h' k b v T := m.upd u fun _ _ h => h
theorem FM.down {h : Hp} {k j b : Nat} {v : Value} {T : List Bool} (hj : j ≤ k) (m : FM h k b v T) : FM h j b v T := by
  refine ⟨m.at_, Nat.le_trans hj m.above, ?_, m.len, m.ne, m.cl⟩
  obtain ⟨h1, h2 | h2 | ⟨b, c, rest, op, h3, h4, h5⟩⟩ := m.bits
  · exact ⟨h1, .inl h2⟩
  · exact ⟨h1, .inr (.inl h2)⟩
  · exact ⟨h1, .inr (.inr ⟨b, c, rest, op, h3, Nat.le_trans hj h4, h5⟩)⟩
theorem RM.down {h : Hp} {k j b : Nat} {v : Value} {T : List Bool} (hj : j ≤ k) (m : RM h k b v T) : RM h j b v T := by
  refine ⟨m.at_, Nat.le_trans hj m.above, ?_, m.len, m.ne, m.cl⟩
  obtain ⟨h1, h2 | h2 | ⟨b, c, rest, op, h3, h4, h5⟩⟩ := m.bits
  · exact ⟨h1, .inl h2⟩
  · exact ⟨h1, .inr (.inl h2)⟩
  · exact ⟨h1, .inr (.inr ⟨b, c, rest, op, h3, Nat.le_trans hj h4, h5⟩)⟩
theorem RM.since {h0 h h' : Hp} {b : Nat} {v : Value} {T : List Bool} (m : RM h h0.length b v T) (s : Same h0 h) (u : Upd (rown b v T) h h') : Same h0 h' :=
  Upd.trans s u fun j hj hin => by have := m.lo hin; omega
theorem take_len (T : List Bool) : (takeT T).2.2.length = T.length := by
  unfold takeT; split <;> simp
/-- two maps that stand alike, apart -/
structure Two (h : Hp) (k b : Nat) (v : Value) (c : Nat) (w : Value) (T : List Bool) : Prop where
  m : FM h k b v T
  r : RM h k c w T
  d : ∀ j, own b v T j → ¬ rown c w T j
theorem Two.same {h h' : Hp} {k b c : Nat} {v w : Value} {T : List Bool} (t : Two h k b v c w T) (u : Same h h') : Two h' k b v c w T := ⟨t.m.same u, t.r.same u, t.d⟩
theorem Two.hi {h : Hp} {k b c : Nat} {v w : Value} {T : List Bool} (t : Two h k b v c w T) (j : Nat) (hj : own b v T j ∨ rown c w T j) : k ≤ j ∧ j < h.length := by
  rcases hj with hj | hj
  · exact ⟨t.m.lo hj, t.m.hi hj⟩
  · exact ⟨t.r.lo hj, t.r.hi hj⟩
theorem Two.upd {S : Nat → Prop} {h h' : Hp} {k b c : Nat} {v w : Value} {T : List Bool} (t : Two h k b v c w T) (u : Upd S h h') (hn : ∀ j, k ≤ j → j < h.length → own b v T j ∨ rown c w T j → ¬ S j) : Two h' k b v c w T :=
  ⟨t.m.upd u fun j hj => hn j (t.m.lo hj) (t.m.hi hj) (.inl hj), t.r.upd u fun j hj => hn j (t.r.lo hj) (t.r.hi hj) (.inr hj), t.d⟩
/-- both are changed alike -/
theorem Two.both {h h1 h2 : Hp} {k b c : Nat} {v w : Value} {T T' : List Bool} (t : Two h k b v c w T) (hl : T'.length = T.length) (m1 : FM h1 k b v T') (u1 : Upd (own b v T) h h1) (r2 : RM h2 k c w T') (u2 : Upd (rown c w T) h1 h2) : Two h2 k b v c w T' := by
  refine ⟨m1.upd u2 fun j hj h' => ?_, r2, ?_⟩
  · rw [own_len hl] at hj; exact t.d j hj h'
  · rw [own_len hl, rset_own hl]; exact t.d
theorem Two.mid {h h1 : Hp} {k b c : Nat} {v w : Value} {T : List Bool} (t : Two h k b v c w T) (u1 : Upd (own b v T) h h1) : RM h1 k c w T := t.r.upd u1 fun j hj h' => t.d j h' hj
set_option maxHeartbeats 4000000 in
set_option maxRecDepth 6000 in
theorem plays05_ev {h : Hp} {w : Value} {l : List Stp} (n0 : Int) (hw : TRow h 2 w l Stp.cells) (hl : l.length ≤ 140737488351232) :
    EvA Try.prog 8 [.int .i64 n0, w] (fun r _ => r = .bool true) h := by
  refine EvA.body Try.func8 rfl (by kernel_rfl) (by simp) ?_
  apply Run.ok
  have hlen := hw.len (P := Try.prog) (t := 71) (e := 74) (by simp)
  by_cases c1 : 2000 < n0 ∧ n0 ≤ 32768
  · simp [c1.1, c1.2]
  · by_cases c2 : (80 : Int) < l.length
    · have c3 : ¬ 2000 < n0 ∨ (2000 < n0 ∧ ¬ n0 ≤ 32768) := by omega
      rcases c3 with c3 | ⟨c3, c4⟩
      · simp [c3, hlen, c2]
      · simp [c3, c4, hlen, c2]
    · have c3 : ¬ 2000 < n0 ∨ (2000 < n0 ∧ ¬ n0 ≤ 32768) := by omega
      rcases c3 with c3 | ⟨c3, c4⟩
      case' inl => simp [c3, hlen, c2]
      case' inr => simp [c3, c4, hlen, c2]
      all_goals
        refine after_call (new_ev n0 _) ?_
        rintro r h1 ⟨sm1, hq⟩
        by_cases c5 : 0 ≤ n0 ∧ n0 ≤ 32768
        · rw [if_pos c5] at hq
          obtain ⟨b, v, rfl, m1⟩ := hq
          simp
          refine after_call (rnew_ev n0 _) ?_
          rintro r2 h2 ⟨sm2, hq2⟩
          rw [if_pos c5] at hq2
          obtain ⟨c, u, rfl, r1⟩ := hq2
          obtain ⟨n, rfl⟩ : ∃ n : Nat, n0 = (n : Int) := ⟨n0.toNat, by omega⟩
          simp only [Int.toNat_natCast] at m1 r1
          have hTwo : Two h2 h.length b v c u (List.replicate n false) := ⟨(m1.same sm2), r1.down sm1.len, fun j hj hr => by have h3 := m1.hi hj; have h4 := r1.lo hr; omega⟩
          have hnl : (List.replicate n false).length = n := by simp
          have sm12 := Same.trans sm1 sm2
          generalize List.replicate n false = T0 at hTwo hnl
          simp
          refine WpA.loop (fun z fr g => ∃ (i b c : Nat) (v u : Value) (T : List Bool), z = l.length - i ∧ i ≤ l.length ∧ fr 0 = .int .i64 (n : Nat) ∧ fr 1 = w ∧ fr 5 = .pointer (some ⟨b, 0, none⟩) ∧ fr 7 = .pointer (some ⟨c, 0, none⟩) ∧ fr 9 = .int .i64 (i : Nat) ∧ Same h g ∧ T.length = n ∧ Two g h.length b v c u T)
            (k := l.length) ⟨0, b, c, v, u, T0, by simp, by omega, by simp, by simp, by simp, by simp, by simp, sm12, hnl, hTwo⟩ ?_
          clear m1 r1 hTwo hnl sm1 sm2 sm12
          rintro z fr g ⟨i, b, c, v, u, T, rfl, hi, f0, f1, f5, f7, f9, sm, hT, W⟩
          apply Run.ok
          have hwg := hw.same sm
          have hlg := hwg.len (P := Try.prog) (t := 71) (e := 74) (by simp)
          by_cases cc : i < l.length
          · have cc' : (i : Int) < l.length := by omega
            have w1 : IntKind.i64.wrap ((i : Int) + 1) = (i : Int) + 1 := wrap_i64 (by omega) (by omega)
            have ia := hwg.ia (P := Try.prog) (t := 71) (e := 74) (by simp) (by simp) cc .i64
            have ld : loadA Try.prog 74 (.pointer (some ⟨rbl w, rof w + i * 2, none⟩)) g = some (.agg #[.int .i64 l[i].kind, .int .i64 l[i].n]) := by
              rw [hwg.agg (P := Try.prog) (e := 74) (by simp) (by simp) cc]; rfl
            generalize l[i] = st at ld
            obtain ⟨k0, n1⟩ := st
            simp only at ld
            simp [f0, f1, f5, f7, f9, hlg, cc', ia, ld, -load_ptr]
            have sA : Same g (g ++ [.cells [.int .i64 k0, .int .i64 n1] false none]) := Same.new _
            have hsA : (g ++ [Blk.cells [.int .i64 k0, .int .i64 n1] false none])[g.length]? = some (.cells [.int .i64 k0, .int .i64 n1] false none) := by simp
            generalize g ++ [Blk.cells [.int .i64 k0, .int .i64 n1] false none] = gA at sA hsA ⊢
            have WA := W.same sA
            have smA := Same.trans sm sA
            have hgA := hp_lt hsA
            have lk := load_at (P := Try.prog) (t := 3) (o := 0) hsA (by simp)
            have lnA := load_at (P := Try.prog) (t := 3) (o := 1) hsA (by simp)
            simp only [List.getElem?_cons_zero, List.getElem?_cons_succ] at lk lnA
            have hTA := WA.m.len
            by_cases e0 : k0 = 0
            case' pos =>
              simp [lk, e0, f5, -load_ptr]
              refine after_call (ftake_ev WA.m) ?_
              rintro r1 g1 ⟨rfl, m1, u1⟩
              simp [f7]
              refine after_call (rtake_ev (WA.mid u1)) ?_
              rintro r2 g6 ⟨rfl, r2, u2⟩
              have W6 := WA.both (take_len T) m1 u1 r2 u2
              have sm6 : Same h g6 := Upd.trans (Upd.trans smA u1 fun j hj hin => by have := (WA.hi j (.inl hin)).1; omega) u2 fun j hj hin => by have := (WA.hi j (.inr hin)).1; omega
              have hs6 : g6[g.length]? = some (.cells [.int .i64 k0, .int .i64 n1] false none) := u2.at (u1.at hsA fun hin => by have := (W.hi _ (.inl hin)).2; omega) fun hin => by have := (W.hi _ (.inr hin)).2; omega
              have hT6 := (take_len T).trans hT
              clear m1 r2 u1 u2
              generalize takeT T = tt at W6 hT6 ⊢
              obtain ⟨kk, ee, T6⟩ := tt
              simp only at W6 hT6
              obtain ⟨b6, v6, c6, u6, rfl, rfl, rfl, rfl⟩ : ∃ b6 v6 c6 u6, b6 = b ∧ v6 = v ∧ c6 = c ∧ u6 = u := ⟨_, _, _, _, rfl, rfl, rfl, rfl⟩
              simp [f5]
            case' neg =>
              by_cases e1 : k0 = 1
              case' pos =>
                simp [lk, lnA, e1, f5, -load_ptr]
                refine after_call (claim_ev n1 WA.m) ?_
                rintro r1 g1 ⟨rfl, m1, u1⟩
                have hs1 : g1[g.length]? = some (.cells [.int .i64 k0, .int .i64 n1] false none) := u1.at hsA fun hin => by have := (W.hi _ (.inl hin)).2; omega
                have ln1 := load_at (P := Try.prog) (t := 3) (o := 1) hs1 (by simp)
                simp only [List.getElem?_cons_zero, List.getElem?_cons_succ] at ln1
                simp [f7, ln1, -load_ptr]
                refine after_call (rclaim_ev n1 (WA.mid u1)) ?_
                rintro r2 g6 ⟨rfl, r2, u2⟩
                have W6 := WA.both (claim_len T n1) m1 u1 r2 u2
                have sm6 : Same h g6 := Upd.trans (Upd.trans smA u1 fun j hj hin => by have := (WA.hi j (.inl hin)).1; omega) u2 fun j hj hin => by have := (WA.hi j (.inr hin)).1; omega
                have hs6 : g6[g.length]? = some (.cells [.int .i64 k0, .int .i64 n1] false none) := u2.at hs1 fun hin => by have := (W.hi _ (.inr hin)).2; omega
                have hT6 := (claim_len T n1).trans hT
                clear m1 r2 u1 u2 hs1 ln1
                generalize claimT T n1 = tt at W6 hT6 ⊢
                obtain ⟨ee, T6⟩ := tt
                simp only at W6 hT6
                obtain ⟨b6, v6, c6, u6, rfl, rfl, rfl, rfl⟩ : ∃ b6 v6 c6 u6, b6 = b ∧ v6 = v ∧ c6 = c ∧ u6 = u := ⟨_, _, _, _, rfl, rfl, rfl, rfl⟩
                simp [f5]
              case' neg =>
                by_cases e2 : k0 = 2
                case' pos =>
                  simp [lk, lnA, e2, f5, -load_ptr]
                  refine after_call (drop_ev n1 WA.m) ?_
                  rintro r1 g1 ⟨rfl, m1, u1⟩
                  have hs1 : g1[g.length]? = some (.cells [.int .i64 k0, .int .i64 n1] false none) := u1.at hsA fun hin => by have := (W.hi _ (.inl hin)).2; omega
                  have ln1 := load_at (P := Try.prog) (t := 3) (o := 1) hs1 (by simp)
                  simp only [List.getElem?_cons_zero, List.getElem?_cons_succ] at ln1
                  simp [f7, ln1, -load_ptr]
                  refine after_call (rdrop_ev n1 (WA.mid u1)) ?_
                  rintro r2 g6 ⟨rfl, r2, u2⟩
                  have W6 := WA.both (drop_len T n1) m1 u1 r2 u2
                  have sm6 : Same h g6 := Upd.trans (Upd.trans smA u1 fun j hj hin => by have := (WA.hi j (.inl hin)).1; omega) u2 fun j hj hin => by have := (WA.hi j (.inr hin)).1; omega
                  have hs6 : g6[g.length]? = some (.cells [.int .i64 k0, .int .i64 n1] false none) := u2.at hs1 fun hin => by have := (W.hi _ (.inr hin)).2; omega
                  have hT6 := (drop_len T n1).trans hT
                  clear m1 r2 u1 u2 hs1 ln1
                  generalize dropT T n1 = tt at W6 hT6 ⊢
                  obtain ⟨ee, T6⟩ := tt
                  simp only at W6 hT6
                  obtain ⟨b6, v6, c6, u6, rfl, rfl, rfl, rfl⟩ : ∃ b6 v6 c6 u6, b6 = b ∧ v6 = v ∧ c6 = c ∧ u6 = u := ⟨_, _, _, _, rfl, rfl, rfl, rfl⟩
                  simp [f5]
                case' neg =>
                  by_cases e3 : k0 = 3
                  case' pos =>
                    simp [lk, e3, f5, -load_ptr]
                    refine after_call (copy_ev WA.m) ?_
                    rintro r1 g1 ⟨s1, b6, v6, rfl, C1⟩
                    have W1 := WA.same s1
                    simp [f5]
                    refine after_call (ftake_ev W1.m) ?_
                    rintro r2 g2 ⟨rfl, m2, u2⟩
                    have C2 := C1.upd u2 fun j hj hin => by have h3 := C1.lo hj; have h4 := (WA.hi j (.inl hin)).2; omega
                    have R2 := W1.mid u2
                    have hs2 := u2.at (s1.at hsA) fun hin => by have := (W.hi _ (.inl hin)).2; omega
                    have sm2 : Same h g2 := Upd.trans (Same.trans smA s1) u2 fun j hj hin => by have := (WA.hi j (.inl hin)).1; omega
                    simp [f5]
                    refine after_call (drop_ev 0 m2) ?_
                    rintro r3 g3 ⟨rfl, m3, u3⟩
                    rw [own_len (take_len T)] at u3
                    have C3 := C2.upd u3 fun j hj hin => by have h3 := C2.lo hj; have h4 := (WA.hi j (.inl hin)).2; omega
                    have R3 := R2.upd u3 fun j hj hin => WA.d j hin hj
                    have hs3 := u3.at hs2 fun hin => by have := (W.hi _ (.inl hin)).2; omega
                    have sm3 : Same h g3 := Upd.trans sm2 u3 fun j hj hin => by have := (WA.hi j (.inl hin)).1; omega
                    simp [f7]
                    refine after_call (rcopy_ev R3) ?_
                    rintro r4 g6 ⟨s6, c6, u6, rfl, D6⟩
                    have W6 : Two g6 h.length b6 v6 c6 u6 T := ⟨(C3.same s6).down (by have := sm.len; omega), D6.down sm3.len, fun j hj hr => by have h3 := C3.hi hj; have h4 := D6.lo hr; omega⟩
                    have hs6 := s6.at hs3
                    have sm6 := Same.trans sm3 s6
                    obtain ⟨T6, rfl⟩ : ∃ T6, T6 = T := ⟨_, rfl⟩
                    have hT6 := hT
                    clear C1 C2 C3 R2 R3 D6 m2 m3 u2 u3 hs2 hs3 sm2 sm3 W1 s1 s6
                    simp
                  case' neg =>
                    by_cases e4 : k0 = 4
                    case' pos =>
                      simp [lk, e4, f5, -load_ptr]
                      refine after_call (bytes_ev WA.m) ?_
                      rintro r1 g1 ⟨A1, s1⟩
                      have hcb0 : cntB (T.length : Nat) = enc T.length := by
                        unfold cntB; rw [if_neg (by omega)]; rfl
                      have hen0 : (enc T.length).length ≤ 10 := by rw [enc_length]; exact grps_le _ (by omega)
                      have hpl0 := pk_length T
                      rw [hcb0] at A1
                      simp
                      refine after_call (load_ev A1.sl (by rw [List.length_append]; omega)) ?_
                      rintro r2 g6 ⟨s6, hq⟩
                      have hIs : IsMap (enc T.length ++ pk T) T := ⟨hTA, rfl⟩
                      rcases hq with ⟨T6, b6, v6, hI6, rfl, M6⟩ | ⟨hno, _⟩
                      case' inr => exact absurd hIs (hno T)
                      have hTT := hI6.eq hIs
                      subst hTT
                      have hs6 := s6.at (s1.at hsA)
                      have sm6 := Same.trans (Same.trans smA s1) s6
                      have R6 := (WA.r.same s1).same s6
                      have W6 : Two g6 h.length b6 v6 c u T6 := ⟨M6.down (by have := smA.len; have := s1.len; omega), R6, fun j hj hr => by have h3 := M6.lo hj; have h4 := (WA.hi j (.inr hr)).2; have := s1.len; omega⟩
                      have hT6 := hT
                      obtain ⟨c6, u6, rfl, rfl⟩ : ∃ c6 u6, c6 = c ∧ u6 = u := ⟨_, _, rfl, rfl⟩
                      clear A1 s1 s6 M6 R6 hIs hI6 hcb0 hen0 hpl0
                      simp
                    case' neg =>
                      have q0 : (k0 == 0) = false := by simp [e0]
                      have q1 : (k0 == 1) = false := by simp [e1]
                      have q2 : (k0 == 2) = false := by simp [e2]
                      have q3 : (k0 == 3) = false := by simp [e3]
                      have q4 : (k0 == 4) = false := by simp [e4]
                      simp [lk, q0, q1, q2, q3, q4, f5, -load_ptr]
                      obtain ⟨b6, v6, c6, u6, g6, T6, rfl, rfl, rfl, rfl, rfl, rfl⟩ : ∃ b6 v6 c6 u6 g6 T6, b6 = b ∧ v6 = v ∧ c6 = c ∧ u6 = u ∧ g6 = gA ∧ T6 = T := ⟨_, _, _, _, _, _, rfl, rfl, rfl, rfl, rfl, rfl⟩
                      have W6 := WA
                      have hs6 := hsA
                      have sm6 := smA
                      have hT6 := hT
            all_goals
              refine after_call (list_ev W6.m) ?_
              rintro y1 g7 ⟨A7, s7⟩
              have W7 := W6.same s7
              simp [f5]
              refine after_call (bytes_ev W7.m) ?_
              rintro y2 g8 ⟨A8, s8⟩
              have W8 := W7.same s8
              have hT6l := W8.m.len
              have hcb : cntB (T6.length : Nat) = enc T6.length := by
                unfold cntB; rw [if_neg (by omega)]; rfl
              rw [hcb] at A8
              have hs8 := s8.at (s7.at hs6)
              have ln8 := load_at (P := Try.prog) (t := 3) (o := 1) hs8 (by simp)
              simp only [List.getElem?_cons_zero, List.getElem?_cons_succ] at ln8
              have c8 := Bytes.str (P := Try.prog) (t := 22) (u := 9) (e := 5) A8.row (by simp) (by simp) (by simp)
              simp [f0, f5, f7]
              refine WpA.drawnT [0, 1, 2, 3, 4, 5, 6, 7, 8, 9, 11, 10, 12, 13, 14, 15, 17, 16, 18, 19, 20, 21, 22, 23, 24, 26, 27, 28, 25, 29, 30, 31, 32, 33, 34, 35, 36, 37, 38, 39, 40, 41, 42, 43, 44, 45, 46] [[], [], [], [], [], [], [], [], [], [], [0, 1, 2, 3, 4, 5, 6, 7, 8, 9], [], [], [], [], [], [0, 1, 2, 3, 4, 5, 6, 7, 8, 9, 10, 11, 12, 13, 14, 15], [], [0, 1, 2, 3, 4, 5, 6, 7, 8, 9, 10, 11, 12, 13, 14, 15, 16, 17], [], [], [], [], [], [], [0, 1, 2, 3, 4, 5, 6, 7, 8, 9, 10, 11, 12, 13, 14, 15, 16, 17, 18, 19, 20, 21, 22, 23, 24], [], [], [], [0, 1, 2, 3, 4, 5, 6, 7, 8, 9, 10, 11, 12, 13, 14, 15, 16, 17, 18, 19, 20, 21, 22, 23, 24, 25, 26, 27, 28], [], [], [], [], [], [0, 1, 2, 3, 4, 5, 6, 7, 8, 9, 10, 11, 12, 13, 14, 15, 16, 17, 18, 19, 20, 21, 22, 23, 24, 25, 26, 27, 28, 29, 30, 31, 32, 34], [0, 1, 2, 3, 4, 5, 6, 7, 8, 9, 10, 11, 12, 13, 14, 15, 16, 17, 18, 19, 20, 21, 22, 23, 24, 25, 26, 27, 28, 29, 30, 31, 32, 33, 34, 35], [], [], [], [], [], [], [0, 1, 2, 3, 4, 5, 6, 7, 8, 9, 10, 11, 12, 13, 14, 15, 16, 17, 18, 19, 20, 21, 22, 23, 24, 25, 26, 27, 28, 29, 30, 31, 32, 33, 34, 35, 36, 37, 38, 39, 42]] [[], [], [0, 1], [0, 1, 2], [0, 1, 2, 3], [0, 1, 2, 3], [0, 1, 2, 3, 4, 5], [0, 1, 2, 3, 4, 5, 6], [0, 1, 2, 3, 4, 5, 6, 7], [0, 1, 2, 3, 4, 5, 6, 7, 8], [0, 1, 2, 3, 4, 5, 6, 7, 8, 9], [0, 1, 2, 3, 4, 5, 6, 7, 8], [0, 1, 2, 3, 4, 5, 6, 7, 8, 9, 10, 11], [0, 1, 2, 3, 4, 5, 6, 7, 8, 9, 10, 11, 12], [0, 1, 2, 3, 4, 5, 6, 7, 8, 9, 10, 11, 12, 13], [0, 1, 2, 3, 4, 5, 6, 7, 8, 9, 10, 11, 12, 13, 14], [0, 1, 2, 3, 4, 5, 6, 7, 8, 9, 10, 11, 12, 13, 14, 15], [0, 1, 2, 3, 4, 5, 6, 7, 8, 9, 10, 11, 12, 13, 14], [0, 1, 2, 3, 4, 5, 6, 7, 8, 9, 10, 11, 12, 13, 14, 15, 16, 17], [0, 1, 2, 3, 4, 5, 6, 7, 8, 9, 10, 11, 12, 13, 14, 15, 16, 17, 18], [0, 1, 2, 3, 4, 5, 6, 7, 8, 9, 10, 11, 12, 13, 14, 15, 16, 17, 18, 19], [0, 1, 2, 3, 4, 5, 6, 7, 8, 9, 10, 11, 12, 13, 14, 15, 16, 17, 18, 19, 20], [0, 1, 2, 3, 4, 5, 6, 7, 8, 9, 10, 11, 12, 13, 14, 15, 16, 17, 18, 19, 20, 21], [0, 1, 2, 3, 4, 5, 6, 7, 8, 9, 10, 11, 12, 13, 14, 15, 16, 17, 18, 19, 20, 21], [0, 1, 2, 3, 4, 5, 6, 7, 8, 9, 10, 11, 12, 13, 14, 15, 16, 17, 18, 19, 20, 21, 23], [0, 1, 2, 3, 4, 5, 6, 7, 8, 9, 10, 11, 12, 13, 14, 15, 16, 17, 18, 19, 20, 21, 22, 23, 24], [0, 1, 2, 3, 4, 5, 6, 7, 8, 9, 10, 11, 12, 13, 14, 15, 16, 17, 18, 19, 20, 21], [0, 1, 2, 3, 4, 5, 6, 7, 8, 9, 10, 11, 12, 13, 14, 15, 16, 17, 18, 19, 20, 21], [0, 1, 2, 3, 4, 5, 6, 7, 8, 9, 10, 11, 12, 13, 14, 15, 16, 17, 18, 19, 20, 21, 27], [0, 1, 2, 3, 4, 5, 6, 7, 8, 9, 10, 11, 12, 13, 14, 15, 16, 17, 18, 19, 20, 21, 22, 23, 24, 25, 26, 27, 28], [0, 1, 2, 3, 4, 5, 6, 7, 8, 9, 10, 11, 12, 13, 14, 15, 16, 17, 18, 19, 20, 21, 22, 23, 24, 25, 26, 27, 28, 29], [0, 1, 2, 3, 4, 5, 6, 7, 8, 9, 10, 11, 12, 13, 14, 15, 16, 17, 18, 19, 20, 21, 22, 23, 24, 25, 26, 27, 28, 29, 30], [0, 1, 2, 3, 4, 5, 6, 7, 8, 9, 10, 11, 12, 13, 14, 15, 16, 17, 18, 19, 20, 21, 22, 23, 24, 25, 26, 27, 28, 29, 30, 31], [0, 1, 2, 3, 4, 5, 6, 7, 8, 9, 10, 11, 12, 13, 14, 15, 16, 17, 18, 19, 20, 21, 22, 23, 24, 25, 26, 27, 28, 29, 30, 31, 32], [0, 1, 2, 3, 4, 5, 6, 7, 8, 9, 10, 11, 12, 13, 14, 15, 16, 17, 18, 19, 20, 21, 22, 23, 24, 25, 26, 27, 28, 29, 30, 31, 32], [0, 1, 2, 3, 4, 5, 6, 7, 8, 9, 10, 11, 12, 13, 14, 15, 16, 17, 18, 19, 20, 21, 22, 23, 24, 25, 26, 27, 28, 29, 30, 31, 32, 34], [0, 1, 2, 3, 4, 5, 6, 7, 8, 9, 10, 11, 12, 13, 14, 15, 16, 17, 18, 19, 20, 21, 22, 23, 24, 25, 26, 27, 28, 29, 30, 31, 32, 33, 34, 35], [0, 1, 2, 3, 4, 5, 6, 7, 8, 9, 10, 11, 12, 13, 14, 15, 16, 17, 18, 19, 20, 21, 22, 23, 24, 25, 26, 27, 28, 29, 30, 31, 32, 33, 34, 35, 36], [0, 1, 2, 3, 4, 5, 6, 7, 8, 9, 10, 11, 12, 13, 14, 15, 16, 17, 18, 19, 20, 21, 22, 23, 24, 25, 26, 27, 28, 29, 30, 31, 32, 33, 34, 35, 36, 37], [0, 1, 2, 3, 4, 5, 6, 7, 8, 9, 10, 11, 12, 13, 14, 15, 16, 17, 18, 19, 20, 21, 22, 23, 24, 25, 26, 27, 28, 29, 30, 31, 32, 33, 34, 35, 36, 37, 38], [0, 1, 2, 3, 4, 5, 6, 7, 8, 9, 10, 11, 12, 13, 14, 15, 16, 17, 18, 19, 20, 21, 22, 23, 24, 25, 26, 27, 28, 29, 30, 31, 32, 33, 34, 35, 36, 37, 38, 39], [0, 1, 2, 3, 4, 5, 6, 7, 8, 9, 10, 11, 12, 13, 14, 15, 16, 17, 18, 19, 20, 21, 22, 23, 24, 25, 26, 27, 28, 29, 30, 31, 32, 33, 34, 35, 36, 37, 38, 39, 40], [0, 1, 2, 3, 4, 5, 6, 7, 8, 9, 10, 11, 12, 13, 14, 15, 16, 17, 18, 19, 20, 21, 22, 23, 24, 25, 26, 27, 28, 29, 30, 31, 32, 33, 34, 35, 36, 37, 38, 39], [0, 1, 2, 3, 4, 5, 6, 7, 8, 9, 10, 11, 12, 13, 14, 15, 16, 17, 18, 19, 20, 21, 22, 23, 24, 25, 26, 27, 28, 29, 30, 31, 32, 33, 34, 35, 36, 37, 38, 39, 42], [0, 1, 2, 3, 4, 5, 6, 7, 8, 9, 10, 11, 12, 13, 14, 15, 16, 17, 18, 19, 20, 21, 22, 23, 24, 25, 26, 27, 28, 29, 30, 31, 32, 33, 34, 35, 36, 37, 38, 39, 42, 43], [0, 1, 2, 3, 4, 5, 6, 7, 8, 9, 10, 11, 12, 13, 14, 15, 16, 17, 18, 19, 20, 21, 22, 23, 24, 25, 26, 27, 28, 29, 30, 31, 32, 33, 34, 35, 36, 37, 38, 39, 40, 41, 42, 43, 44], [0, 1, 2, 3, 4, 5, 6, 7, 8, 9, 10, 11, 12, 13, 14, 15, 16, 17, 18, 19, 20, 21, 22, 23, 24, 25, 26, 27, 28, 29, 30, 31, 32, 33, 34, 35, 36, 37, 38, 39, 40, 41, 42, 43, 44, 45]] (by kernel_rfl) (by decide +kernel) (by decide +kernel) (by decide +kernel) ?_
              simp [f0, f5, f7, ln8, -load_ptr]
              refine after_call (flen_ev W8.m) ?_
              rintro r9 g9 ⟨rfl, rfl⟩
              simp [f0, f5, f7, ln8, hT6, -load_ptr]
              refine after_call (free_ev W8.m) ?_
              rintro r10 g10 ⟨rfl, rfl⟩
              simp [f0, f5, f7, ln8, -load_ptr]
              refine after_call (rfree_ev W8.r) ?_
              rintro r11 g11 ⟨rfl, rfl⟩
              simp [f0, f5, f7, ln8, -load_ptr]
              refine after_call (taken_ev n1 W8.m) ?_
              rintro r12 g12 ⟨rfl, rfl⟩
              simp [f0, f5, f7, ln8, -load_ptr]
              refine after_call (rtaken_ev n1 W8.r) ?_
              rintro r13 g13 ⟨rfl, rfl⟩
              simp [f0, f5, f7, ln8, -load_ptr]
              refine after_call (rlist_ev W8.r) ?_
              rintro y3 g14 ⟨A14, s14⟩
              have hil := idxs_len T6 T6.length
              simp [f0, f5, f7, -load_ptr]
              refine after_call (rints_ev ((A7.same s8).same s14).row A14.row (by omega)) ?_
              rintro r15 g15 ⟨rfl, rfl⟩
              have c15 := Bytes.str (P := Try.prog) (t := 22) (u := 9) (e := 5) (A8.same s14).row (by simp) (by simp) (by simp)
              have W15 := W8.same s14
              simp [f0, f5, f7, c15, -load_ptr]
              refine after_call (rbytes_ev W15.r) ?_
              rintro y4 g16 ⟨A16, s16⟩
              have c16 := Bytes.str (P := Try.prog) (t := 22) (u := 9) (e := 5) ((A8.same s14).same s16).row (by simp) (by simp) (by simp)
              have c16' := Bytes.str (P := Try.prog) (t := 22) (u := 9) (e := 5) A16.row (by simp) (by simp) (by simp)
              simp [f0, f5, f7, c16, c16', -load_ptr]
              have W16 := W15.same s16
              have L16 := (((A7.same s8).same s14).same s16)
              have B16 := ((A8.same s14).same s16)
              have sm16 := Same.trans (Same.trans (Same.trans (Same.trans sm6 s7) s8) s14) s16
              have hi6 : ∀ j, own b6 v6 T6 j ∨ rown c6 u6 T6 j → j < g6.length := fun j hj => (W6.hi j hj).2
              have hlo1 : 0 < (idxs T6 T6.length).length → g6.length ≤ rbl y1 ∧ rbl y1 < g7.length := fun h0 => A7.above _ (Row.inRow (k := 0) A7.row h0)
              have hlo2 : 0 < (enc T6.length ++ pk T6).length → g7.length ≤ rbl y2 := fun h0 => (A8.above _ (Row.inRow (k := 0) A8.row h0)).1
              have h6 := sm6.len
              have h67 := s7.len
              generalize (idxs T6 T6.length).map intV = xs at L16
              generalize (idxs T6 T6.length).length = N at L16 hlo1 hil
              have hBl : (enc T6.length ++ pk T6).length ≤ 100000 := by
                rw [List.length_append, enc_length, pk_length]
                have := grps_le T6.length (by omega)
                omega
              have B16' : Acc g7.length g16 1 y2 (enc T6.length ++ pk T6).length ((enc T6.length ++ pk T6).map byteV) := B16
              generalize (enc T6.length ++ pk T6).map byteV = ys at B16'
              generalize (enc T6.length ++ pk T6).length = M at B16' hlo2 hBl
              refine WpA.loop (fun z fr gL => ∃ (q : Nat) (xs : List Value), z = N - q ∧ q ≤ N ∧ fr 0 = .int .i64 (n : Nat) ∧ fr 1 = w ∧ fr 5 = .pointer (some ⟨b6, 0, none⟩) ∧ fr 7 = .pointer (some ⟨c6, 0, none⟩) ∧ fr 9 = .int .i64 (i : Nat) ∧ fr 16 = y1 ∧ fr 17 = y2 ∧ fr 18 = .int .i64 (q : Nat) ∧ Same h gL ∧ Two gL h.length b6 v6 c6 u6 T6 ∧ Wr g6.length gL 1 y1 N xs ∧ Acc g7.length gL 1 y2 M ys)
                (k := N) ⟨0, xs, by simp, by omega, by simp [f0], by simp [f1], by simp [f5], by simp [f7], by simp [f9], by simp, by simp, by simp, sm16, W16, L16.wr, B16'⟩ ?_
              clear f0 f1 f5 f7 f9
              rintro z fr gL ⟨q, xs, rfl, hq, f0, f1, f5, f7, f9, f16, f17, f18, smL, WL, LL, BL⟩
              apply Run.ok
              have lL := LL.row.len (P := Try.prog) (t := 35) (e := 3) (by simp)
              by_cases cq : q < N
              · have cq' : (q : Int) < N := by omega
                have wq : IntKind.i64.wrap ((q : Int) + 1) = (q : Int) + 1 := wrap_i64 (by omega) (by omega)
                have iaq := Row.ia1 (P := Try.prog) (t := 35) (e := 3) LL.row (by simp) (by simp) cq .i64
                obtain ⟨gM, p1, p2, p3, p4⟩ := LL.store1 (P := Try.prog) (e := 3) (x := .int .i64 (-7)) (by simp) rfl cq
                obtain ⟨hr1, hr2⟩ := hlo1 (by omega)
                simp [f0, f1, f5, f7, f9, f16, f17, f18, lL, cq', iaq, p1, wq, -load_ptr, -store_ptr, -roundQ_normal, ↓rq]
                refine stop_intro ⟨N - (q + 1), by omega, q + 1, _, rfl, by omega, by simp [f0], by simp [f1], by simp [f5], by simp [f7], by simp [f9], by simp [f16], by simp [f17], by simp, Upd.trans smL p3 fun j hj e => by omega, WL.upd p3 fun j h1 h2 h3 e => by have := hi6 j h3; omega, p2, BL.upd p3 fun j hj e => by have := (BL.above j hj).1; omega⟩
              · have cq' : ¬ (q : Int) < N := by omega
                simp [f0, f1, f5, f7, f9, f16, f17, f18, lL, cq']
                refine WpA.loop (fun z fr gL => ∃ (q : Nat) (ys : List Value), z = M - q ∧ q ≤ M ∧ fr 0 = .int .i64 (n : Nat) ∧ fr 1 = w ∧ fr 5 = .pointer (some ⟨b6, 0, none⟩) ∧ fr 7 = .pointer (some ⟨c6, 0, none⟩) ∧ fr 9 = .int .i64 (i : Nat) ∧ fr 17 = y2 ∧ fr 19 = .int .i64 (q : Nat) ∧ Same h gL ∧ Two gL h.length b6 v6 c6 u6 T6 ∧ Wr g7.length gL 1 y2 M ys)
                  (k := M) ⟨0, ys, by simp, by omega, by simp [f0], by simp [f1], by simp [f5], by simp [f7], by simp [f9], by simp [f17], by simp, smL, WL, BL.wr⟩ ?_
                clear f0 f1 f5 f7 f9 f16 f17 f18 lL smL WL LL BL
                rintro z fr gL ⟨q, ys, rfl, hq, f0, f1, f5, f7, f9, f17, f19, smL, WL, BL⟩
                apply Run.ok
                have lL := BL.row.len (P := Try.prog) (t := 22) (e := 5) (by simp)
                by_cases cr : q < M
                · have cr' : (q : Int) < M := by omega
                  have wq : IntKind.i64.wrap ((q : Int) + 1) = (q : Int) + 1 := wrap_i64 (by omega) (by omega)
                  have iaq := Row.ia1 (P := Try.prog) (t := 22) (e := 5) BL.row (by simp) (by simp) cr .i64
                  obtain ⟨gM, p1, p2, p3, p4⟩ := BL.store1 (P := Try.prog) (e := 5) (x := .int .u8 255) (by simp) rfl cr
                  have hr1 := hlo2 (by omega)
                  simp [f0, f1, f5, f7, f9, f17, f19, lL, cr', iaq, p1, wq, -load_ptr, -store_ptr, -roundQ_normal, ↓rq]
                  refine stop_intro ⟨M - (q + 1), by omega, q + 1, _, rfl, by omega, by simp [f0], by simp [f1], by simp [f5], by simp [f7], by simp [f9], by simp [f17], by simp, Upd.trans smL p3 fun j hj e => by omega, WL.upd p3 fun j h1 h2 h3 e => by have := hi6 j h3; omega, p2⟩
                · have cr' : ¬ (q : Int) < M := by omega
                  simp [f0, f1, f5, f7, f9, f17, f19, lL, cr', w1, -roundQ_normal, ↓rq]
                  refine stop_intro ⟨l.length - (i + 1), by omega, i + 1, b6, c6, v6, u6, T6, rfl, by omega, by simp [f0], by simp [f1], by simp [f5], by simp [f7], by simp, smL, hT6, WL⟩
          · have cc' : ¬ (i : Int) < l.length := by omega
            simp [f0, f1, f5, f7, f9, hlg, cc']
            refine after_call (list_ev W.m) ?_
            rintro y1 g8 ⟨A8, s8⟩
            simp [f7]
            refine after_call (rlist_ev (W.r.same s8)) ?_
            rintro y2 g9 ⟨A9, s9⟩
            have hil := idxs_len T T.length
            have hTl := W.m.len
            simp
            refine after_call (rints_ev (A8.same s9).row A9.row (by omega)) ?_
            rintro r g10 ⟨rfl, rfl⟩
            simp
        · rw [if_neg c5] at hq
          subst hq
          simp
          refine after_call (rnew_ev n0 _) ?_
          rintro r2 h2 ⟨sm2, hq2⟩
          rw [if_neg c5] at hq2
          subst hq2
          simp
theorem freemapPlays_ev (h : Hp) (vs : List Value) (dts : List Dt) (hr : RepAll Try.prog h 6 [3, 71] vs dts) : EvA Try.prog 8 vs (fun r _ => r = .bool true) h := by
  obtain ⟨a, vs, d, ds, rfl, rfl, h1, hr⟩ := hr.cons
  obtain ⟨b, vs, e, ds, rfl, rfl, h2, hr⟩ := hr.cons
  rw [hr.nil]
  obtain ⟨n, rfl, n1, n2⟩ := h1.int (q := .i64) (by simp)
  obtain ⟨l, l1, l2, l3, l4⟩ := h2.slice (e := 74) (z := 2) Stp.cells (fun _ => True) (by simp) (by kernel_rfl)
    (fun k x d _ hx => by
      obtain ⟨k, hf⟩ := hx.struct (by simp; rfl)
      simp only [RepFs] at hf
      obtain ⟨x0, d0, _, rfl, r0, x1, d1, _, rfl, r1, rfl⟩ := hf
      obtain ⟨n, rfl, _⟩ := r0.int (q := .i64) (by simp)
      obtain ⟨m, rfl, _⟩ := r1.int (q := .i64) (by simp)
      exact ⟨⟨n, m⟩, rfl, trivial⟩)
  exact plays05_ev n (l1.rows (fun _ _ => rfl) l4) l2
end Go.Proofs.Ytklhioaokogpdaa
