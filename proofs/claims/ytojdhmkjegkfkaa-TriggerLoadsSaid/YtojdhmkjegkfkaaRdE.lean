/- trigger's events: what is loaded of any bytes, plainly, and by both Loads; no condition. -/
import Derived.Test.YtojdhmkjegkfkaaRefB
import Derived.Test.YtojdhmkjegkfkaaLawTakes29
namespace Go.Proofs.Ytojdhmkjegkfkaa
open Go.Ab
theorem num_pre {l : List UInt8} (h : (num l).2 ≠ 0) : ∃ r, l = enc (num l).1 ++ r ∧ (num l).2 = (enc (num l).1).length := by
  rcases num_cases l with ⟨u, hu, he⟩ | ⟨_, he⟩
  · obtain ⟨r, hr⟩ := hu.2
    rw [he]
    exact ⟨r, hr.symm, (enc_length u).symm⟩
  · rw [he] at h; exact absurd rfl h
theorem wth_num {l : List UInt8} {most : Int} (h : (wth l most).2 ≠ 0) : wth l most = num l := by
  unfold wth at h ⊢
  split
  · rename_i c; rw [if_pos c] at h; exact absurd rfl h
  · rfl
theorem cntO_some {most : Int} {o : Option (List UInt8)} {r : List UInt8} (h : (cntO most o).2 = some r) : o = some (enc (cntO most o).1 ++ r) := by
  cases o with
  | none => simp [cntO] at h
  | some l =>
    simp only [cntO] at h ⊢
    by_cases c : (wth l most).2 = 0
    · rw [if_pos c] at h; cases h
    · rw [if_neg c] at h ⊢
      simp only [Option.some.injEq] at h
      have hw := wth_num c
      rw [hw] at h c ⊢
      obtain ⟨q, h1, h2⟩ := num_pre c
      simp only
      rw [← h, h2]
      rw [Option.some.injEq]
      conv => lhs; rw [h1]
      congr 1
      conv => rhs; rw [h1]
      rw [List.drop_left' (by rw [← h1])]
theorem strO_some {most : Int} {o : Option (List UInt8)} {r : List UInt8} (h : (strO most o).2 = some r) : o = some (enc (strO most o).1.length ++ (strO most o).1 ++ r) := by
  cases o with
  | none => simp [strO] at h
  | some l =>
    simp only [strO] at h ⊢
    by_cases c : (wth l most).2 = 0 ∨ (wth l most).1 > l.length - (wth l most).2
    · rw [if_pos c] at h; cases h
    · rw [if_neg c] at h ⊢
      simp only [not_or] at c
      simp only [Option.some.injEq] at h
      have hw := wth_num c.1
      rw [hw] at h c ⊢
      obtain ⟨q, h1, h2⟩ := num_pre c.1
      generalize (num l).1 = u at *
      rw [h2] at h c ⊢
      have hq : l.drop (enc u).length = q := by rw [h1, List.drop_left]
      have hql : l.length = (enc u).length + q.length := by rw [h1, List.length_append]
      rw [← List.drop_drop, hq] at h
      simp only [hq]
      rw [← h, List.length_take, show min u q.length = u by omega, List.append_assoc, List.take_append_drop, ← h1]
/-- n events, read one by one -/
noncomputable def readE : Nat → Option (List UInt8) → List Ev → Option (Option (List UInt8) × List Ev)
  | 0, o, L => some (o, L)
  | n + 1, o, L => if (takeE L (strO 64 o).1 (cntO 2147483647 (strO 64 o).2).1).1 = 0 then readE n (cntO 2147483647 (strO 64 o).2).2 (takeE L (strO 64 o).1 (cntO 2147483647 (strO 64 o).2).1).2 else none
theorem takeE_zero {L : List Ev} {s : List UInt8} {p : Int} (h : (takeE L s p).1 = 0) : (takeE L s p).2 = (if L.length = 8 then L.drop 1 else L) ++ [⟨s, p⟩] := by
  unfold takeE at h ⊢
  split
  · rename_i c; rw [if_pos c] at h; cases h
  · rename_i c; rw [if_neg c] at h
    split
    · rename_i c; rw [if_pos c] at h; cases h
    · rename_i c; rw [if_neg c] at h
      split
      · rename_i c; rw [if_pos c] at h; cases h
      · rfl
theorem readE_spec : ∀ (n : Nat) (o : Option (List UInt8)) (L : List Ev) (r : List UInt8) (L' : List Ev), L.length + n ≤ 8 → readE n o L = some (some r, L') → ∃ l, o = some l ∧ L'.length = L.length + n ∧ L.flatMap evB ++ l = L'.flatMap evB ++ r := by
  intro n
  induction n with
  | zero =>
    intro o L r L' _ h
    simp only [readE, Option.some.injEq, Prod.mk.injEq] at h
    obtain ⟨rfl, rfl⟩ := h
    exact ⟨r, rfl, rfl, rfl⟩
  | succ n ih =>
    intro o L r L' hl h
    simp only [readE] at h
    by_cases c : (takeE L (strO 64 o).1 (cntO 2147483647 (strO 64 o).2).1).1 = 0
    · rw [if_pos c, takeE_zero c, if_neg (by omega)] at h
      obtain ⟨l, h1, h2, h3⟩ := ih _ _ _ _ (by simp; omega) h
      have g1 := cntO_some h1
      have g2 := strO_some g1
      refine ⟨_, g2, by rw [h2]; simp; omega, ?_⟩
      rw [← h3, List.flatMap_append]
      simp only [List.flatMap_cons, List.flatMap_nil, List.append_nil, evB, Int.toNat_natCast, List.append_assoc]
    · rw [if_neg c] at h; cases h
/-- events of bytes -/
def IsEvs (b : List UInt8) (L : List Ev) : Prop := readE (cntO 8 (some b)).1 (cntO 8 (some b)).2 [] = some (some [], L)
theorem IsEvs.bytes {b : List UInt8} {L : List Ev} (h : IsEvs b L) : evsB L = b := by
  unfold IsEvs at h
  have h8 := (cntO_le 8 (some b)).2 (by omega)
  obtain ⟨l, h1, h2, h3⟩ := readE_spec _ _ _ _ _ (by simp; omega) h
  have g := cntO_some h1
  simp only [Option.some.injEq] at g
  simp only [List.flatMap_nil, List.nil_append, List.append_nil] at h3
  simp only [List.length_nil, Nat.zero_add] at h2
  unfold evsB
  rw [h2, ← h3]
  exact g.symm
theorem strO_len (most : Int) (o : Option (List UInt8)) : (strO most o).1.length ≤ 2147483647 := by
  cases o with
  | none => simp [strO]
  | some l =>
    simp only [strO]
    split
    · simp
    · rename_i h
      simp only [not_or] at h
      have hw := h.1
      unfold wth at hw ⊢
      split
      · simp
      · rename_i hh; simp only [not_or] at hh
        rw [List.length_take]
        show min (num l).1 _ ≤ _
        omega
set_option maxHeartbeats 2000000 in
theorem eloadO_ev {h : Hp} {w : Value} {b : List UInt8} (hw : Bytes h w b) (hb : b.length ≤ 1000000) :
    EvA Try.prog 34 [w] (fun r h' => Same h h' ∧ ((∃ a L, IsEvs b L ∧ EvOk L ∧ r = .tuple #[.pointer (some ⟨h.length, 0, none⟩), .int .i64 0] ∧ EV h' h.length h.length a L) ∨ ((∀ L, ¬ IsEvs b L) ∧ r = .tuple #[.pointer none, .int .i64 4]))) h := by
  refine EvA.body Try.func34 rfl (by kernel_rfl) (by simp) ?_
  apply Run.ok
  simp
  refine after_call (enew_ev h) ?_
  rintro r h1 ⟨rfl, s1, E1⟩
  simp
  refine after_call (newReader_o (hw.same s1) (by omega)) ?_
  rintro r h2 ⟨rfl, R, s2⟩
  have hK := s1.len
  have hbE := hp_lt E1.at_
  have E2 := E1.same s2
  have sm2 := s1.trans s2
  generalize h1.length = rb at R hbE hK ⊢
  simp
  refine after_call (count_o 8 R) ?_
  rintro r g3 ⟨rfl, R3, u3⟩
  have E3 := E2.upd u3 (by omega) (fun j hj => by obtain ⟨a, n, c, he, _⟩ := hj; cases he)
  have s3 : Same h g3 := Upd.trans sm2 u3 fun j hj e => by omega
  have h8 := (cntO_le 8 (some b)).2 (by omega)
  have hdef : ∀ L, IsEvs b L ↔ readE (cntO 8 (some b)).1 (cntO 8 (some b)).2 [] = some (some [], L) := fun L => Iff.rfl
  generalize (cntO 8 (some b)).2 = o0 at R3 hdef
  generalize (cntO 8 (some b)).1 = n0 at h8 hdef ⊢
  simp
  refine WpA.loop (fun z fr g => ∃ i a o L, z = n0 - i ∧ i ≤ n0 ∧ fr 4 = .pointer (some ⟨h.length, 0, none⟩) ∧ fr 5 = .pointer (some ⟨rb, 0, none⟩) ∧ fr 11 = .int .i64 (n0 : Nat) ∧ fr 12 = .int .i64 (i : Nat) ∧ Same h g ∧ RdrO g rb o ∧ EV g h.length h.length a L ∧ (∀ j, inRow a j → j ≠ rb) ∧ EvOk L ∧ readE (n0 - i) o L = readE n0 o0 [])
    (k := n0) ⟨0, _, o0, [], by simp, by omega, by simp, by simp, by simp, by simp, s3, R3, E3, fun j hj => (by obtain ⟨a, n, c, he, _⟩ := hj; cases he), ⟨by simp, by simp, by simp⟩, rfl⟩ ?_
  clear R R3 E1 E2 E3 s1 s2 s3 u3 sm2
  rintro z fr g ⟨i, a, o, L, rfl, hi, f4, f5, f11, f12, sm, R, E, na, ok, hrd⟩
  apply Run.ok
  by_cases c : i < n0
  · have c' : (i : Int) < n0 := by omega
    have w1 : IntKind.i64.wrap ((i : Int) + 1) = (i : Int) + 1 := wrap_i64 (by omega) (by omega)
    rw [show n0 - i = (n0 - (i + 1)) + 1 by omega] at hrd
    simp only [readE] at hrd
    simp [f4, f5, f11, f12, c']
    refine after_call (str_o 64 R) ?_
    rintro r5 g5 ⟨rfl, R5, u5⟩
    have E5 := E.upd u5 (by omega) (fun j hj e => na j hj e)
    have s5 : Same h g5 := Upd.trans sm u5 fun j hj e => by omega
    have hsl := strO_len 64 o
    generalize hso : strO 64 o = so at R5 hrd hsl ⊢
    obtain ⟨sx, o5⟩ := so
    simp only at R5 hrd hsl ⊢
    simp [f4, f5]
    refine after_call (count_o 2147483647 R5) ?_
    rintro r6 g6 ⟨rfl, R6, u6⟩
    have E6 := E5.upd u6 (by omega) (fun j hj e => na j hj e)
    have s6 : Same h g6 := Upd.trans s5 u6 fun j hj e => by omega
    generalize (cntO 2147483647 o5) = co at R6 hrd ⊢
    obtain ⟨cx, o6⟩ := co
    simp only at R6 hrd ⊢
    simp
    refine after_call (etake_ev sx (by omega) cx E6 s6.len) ?_
    rintro r7 g7 ⟨rfl, a', E7, u7, n7⟩
    have ok7 := takeE_ok ok sx cx
    have hrl := R6.lt
    have R7 : RdrO g7 rb o6 := R6.upd u7 fun hin => by
      rcases hin with h | h
      · omega
      · exact na _ h rfl
    have s7 : Same h g7 := Upd.trans s6 u7 fun j hj hin => by
      rcases hin with h | h
      · omega
      · have := (E6.acc.above j h).1; omega
    generalize (takeE L sx cx) = tt at E7 ok7 hrd ⊢
    obtain ⟨te, L7⟩ := tt
    simp only at E7 ok7 hrd ⊢
    by_cases d : te = 0
    · rw [if_pos d] at hrd
      simp [d, f4, f5, f11, f12, w1, -roundQ_normal, ↓rq]
      refine stop_intro ⟨n0 - (i + 1), by omega, i + 1, a', o6, L7, rfl, by omega, by simp [f4], by simp [f5], by simp [f11], by simp, s7, R7, E7, fun j hj e => ?_, ok7, hrd⟩
      rcases n7 j hj with h | h
      · exact na j h e
      · omega
    · rw [if_neg d] at hrd
      have d' : (te != 0) = true := by simpa using d
      simp [d', f4, f5]
      exact ⟨s7, fun L hL => by rw [hdef, ← hrd] at hL; cases hL⟩
  · have c' : ¬ (i : Int) < n0 := by omega
    rw [show n0 - i = 0 by omega] at hrd
    simp only [readE] at hrd
    simp [f4, f5, f11, f12, c']
    refine after_call (done_o R) ?_
    rintro r5 g5 ⟨rfl, rfl⟩
    by_cases d : o = some []
    · rw [decide_eq_true d]
      simp [f4]
      exact ⟨sm, a, L, (hdef L).2 (by rw [← hrd, d]), ok, E⟩
    · rw [decide_eq_false d]
      simp [f4]
      exact ⟨sm, fun L' hL => by rw [hdef, ← hrd] at hL; cases hL; exact d rfl⟩
set_option maxHeartbeats 2000000 in
theorem rloadO_ev {h : Hp} {w : Value} {b : List UInt8} (hw : Bytes h w b) (hb : b.length ≤ 1000000) :
    EvA Try.prog 35 [w] (fun r h' => Same h h' ∧ ((∃ v L, IsEvs b L ∧ EvOk L ∧ r = .tuple #[.pointer (some ⟨h.length, 0, none⟩), .int .i64 0] ∧ RE h' h.length h.length v L) ∨ ((∀ L, ¬ IsEvs b L) ∧ r = .tuple #[.pointer none, .int .i64 4]))) h := by
  refine EvA.body Try.func35 rfl (by kernel_rfl) (by simp) ?_
  apply Run.ok
  simp [cellsOf, spl]
  have s1 : Same h (h ++ [.cells [.slice none 0 0] false none]) := Same.new _
  have hno : ∀ j, ¬ inRow (.slice none 0 0) j := fun j hj => by obtain ⟨a, n, c, he, _⟩ := hj; cases he
  have E1 : RE (h ++ [.cells [.slice none 0 0] false none]) h.length h.length (.slice none 0 0) [] := ⟨by simp, Nat.le_refl _, (Acc.nil 0).sl, fun j hj => absurd hj (hno j), fun j hj => absurd hj (hno j), by simp⟩
  have hK : (h ++ [Blk.cells [.slice none 0 0] false none]).length = h.length + 1 := by simp
  generalize h ++ [Blk.cells [.slice none 0 0] false none] = h1 at s1 E1 hK ⊢
  refine after_call (rnewReader_o (hw.same s1) (by omega)) ?_
  rintro r h2 ⟨rb, rfl, R, s2⟩
  have E2 := E1.same s2
  have sm2 := s1.trans s2
  rw [hK] at R
  have hM := s2.len
  obtain ⟨M, hMe⟩ : ∃ M, M = h2.length := ⟨_, rfl⟩
  rw [← hMe] at R
  simp
  have hrb1 := R.1
  have hrb2 := R.2.1
  refine after_call (rcount_o 8 R) ?_
  rintro r g3 ⟨rfl, R3, u3⟩
  have E3 := E2.upd u3 (by omega) (fun j hj => absurd hj (hno j))
  have s3 : Same h g3 := Upd.trans sm2 u3 fun j hj e => by omega
  have hM3 := u3.len
  have h8 := (cntO_le 8 (some b)).2 (by omega)
  have hdef : ∀ L, IsEvs b L ↔ readE (cntO 8 (some b)).1 (cntO 8 (some b)).2 [] = some (some [], L) := fun L => Iff.rfl
  generalize (cntO 8 (some b)).2 = o0 at R3 hdef
  generalize (cntO 8 (some b)).1 = n0 at h8 hdef ⊢
  simp
  refine WpA.loop (fun z fr g => ∃ (i : Nat) (v : Value) (o : Option (List UInt8)) (L : List Ev), z = n0 - i ∧ i ≤ n0 ∧ fr 0 = w ∧ fr 4 = .pointer (some ⟨h.length, 0, none⟩) ∧ fr 5 = .pointer (some ⟨rb, 0, none⟩) ∧ fr 6 = .int .i64 (n0 : Nat) ∧ fr 7 = .int .i64 (i : Nat) ∧ Same h g ∧ M ≤ g.length ∧ RRO g (h.length + 1) M rb o ∧ RE g h.length h.length v L ∧ (∀ j, inRow v j → M ≤ j) ∧ EvOk L ∧ readE (n0 - i) o L = readE n0 o0 [])
    (k := n0) ⟨0, _, o0, [], by simp, by omega, by simp, by simp, by simp, by simp, by simp, s3, by omega, R3, E3, fun j hj => absurd hj (hno j), ⟨by simp, by simp, by simp⟩, rfl⟩ ?_
  clear R R3 E1 E2 E3 s1 s2 s3 u3 sm2
  rintro z fr g ⟨i, v, o, L, rfl, hi, f0, f4, f5, f6, f7, sm, hMg, R, E, na, ok, hrd⟩
  apply Run.ok
  by_cases c : i < n0
  · have c' : (i : Int) < n0 := by omega
    have w1 : IntKind.i64.wrap ((i : Int) + 1) = (i : Int) + 1 := wrap_i64 (by omega) (by omega)
    rw [show n0 - i = (n0 - (i + 1)) + 1 by omega] at hrd
    simp only [readE] at hrd
    simp [f4, f5, f6, f7, c']
    refine after_call (rstr_o 64 R) ?_
    rintro r5 g5 ⟨rfl, R5, u5⟩
    have E5 := E.upd u5 (by omega) (fun j hj e => by have := na j hj; omega)
    have s5 : Same h g5 := Upd.trans sm u5 fun j hj e => by omega
    have hsl := strO_len 64 o
    have hM5 := u5.len
    generalize hso : strO 64 o = so at R5 hrd hsl ⊢
    obtain ⟨sx, o5⟩ := so
    simp only at R5 hrd hsl ⊢
    simp [f4, f5]
    refine after_call (rcount_o 2147483647 R5) ?_
    rintro r6 g6 ⟨rfl, R6, u6⟩
    have E6 := E5.upd u6 (by omega) (fun j hj e => by have := na j hj; omega)
    have s6 : Same h g6 := Upd.trans s5 u6 fun j hj e => by omega
    have hM6 := u6.len
    generalize (cntO 2147483647 o5) = co at R6 hrd ⊢
    obtain ⟨cx, o6⟩ := co
    simp only at R6 hrd ⊢
    simp [f4]
    refine after_call (rtake_ev sx (by omega) cx E6 s6.len) ?_
    rintro r7 g7 ⟨rfl, v', E7, u7, n7⟩
    have ok7 := takeE_ok ok sx cx
    have R7 : RRO g7 (h.length + 1) M rb o6 := R6.upd u7 fun j h1 h2 hin => by
      rcases hin with h | h
      · omega
      · have := na _ h; omega
    have s7 : Same h g7 := Upd.trans s6 u7 fun j hj hin => by
      rcases hin with h | h
      · omega
      · have := (E6.ab j h).1; omega
    have hM7 := u7.len
    generalize (takeE L sx cx) = tt at E7 ok7 hrd ⊢
    obtain ⟨te, L7⟩ := tt
    simp only at E7 ok7 hrd ⊢
    by_cases d : te = 0
    · rw [if_pos d] at hrd
      simp [d, f0, f4, f5, f6, f7, w1, -roundQ_normal, ↓rq]
      refine stop_intro ⟨n0 - (i + 1), by omega, i + 1, v', o6, L7, rfl, by omega, by simp [f0], by simp [f4], by simp [f5], by simp [f6], by simp, s7, by omega, R7, E7, fun j hj => ?_, ok7, hrd⟩
      rcases n7 j hj with h | h
      · exact na j h
      · omega
    · rw [if_neg d] at hrd
      have d' : (te != 0) = true := by simpa using d
      simp [d', f4, f5]
      exact ⟨s7, fun L hL => by rw [hdef, ← hrd] at hL; cases hL⟩
  · have c' : ¬ (i : Int) < n0 := by omega
    rw [show n0 - i = 0 by omega] at hrd
    simp only [readE] at hrd
    simp [f4, f5, f6, f7, c']
    have hw2 := hw.same sm
    have cw := Bytes.str (P := Try.prog) (t := 40) (u := 9) (e := 5) hw2 (by simp) (by simp) (by simp)
    refine WpA.drawnA [0, 1, 2, 3, 4, 7, 8, 5, 6, 9, 10] [[], [0], [], [], [], [0, 1, 2, 3, 4]] (by kernel_rfl) (by decide +kernel) (by decide +kernel) ?_
    simp [f5]
    refine after_call (rdone_o R) ?_
    rintro r5 g5 ⟨rfl, rfl⟩
    by_cases d : o = some []
    · have hL := (hdef L).2 (by rw [← hrd, d])
      have hby := hL.bytes
      rw [decide_eq_true d]
      simp [f0, f4, cw]
      refine after_call (rbytes_ev E ok) ?_
      rintro r6 g6 ⟨A6, s6⟩
      have c6 := Bytes.str (P := Try.prog) (t := 40) (u := 9) (e := 5) A6.row (by simp) (by simp) (by simp)
      have cw6 := Bytes.str (P := Try.prog) (t := 40) (u := 9) (e := 5) (hw2.same s6) (by simp) (by simp) (by simp)
      simp [f0, f4, c6, cw6, hby]
      exact ⟨sm.trans s6, v, L, hL, ok, E.same s6⟩
    · rw [decide_eq_false d]
      simp [f0, f4, cw]
      exact ⟨sm, fun L' hL => by rw [hdef, ← hrd] at hL; cases hL; exact d rfl⟩
end Go.Proofs.Ytojdhmkjegkfkaa
