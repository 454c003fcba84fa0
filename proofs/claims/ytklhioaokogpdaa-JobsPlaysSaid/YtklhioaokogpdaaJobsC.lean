/- jobs: End, Lose, Stop, Full, Cancel, Play, and a step of the law; no condition. -/
import Derived.Test.YtklhioaokogpdaaJobsB
namespace Go.Proofs.Ytklhioaokogpdaa
open Go.Ab
section
variable {h : Hp} {k b : Nat} {jv lv : Value} {js : List Jb} {l : List St}
/-- how a call has changed jobs -/
def Did (h : Hp) (k b : Nat) (jv lv : Value) (js : List Jb) (o : Int × List St) (r : Value) (h' : Hp) : Prop := r = .int .i64 o.1 ∧ JM h' k b jv lv js o.2 ∧ Upd (inRow lv) h h'
theorem jend_ev (m : JM h k b jv lv js l) (i badge num : Int) :
    EvA Try.prog 36 [.pointer (some ⟨b, 0, none⟩), .int .i64 i, .int .i64 badge, .int .i64 num] (Did h k b jv lv js (endJ js l i badge num)) h := by
  refine EvA.body Try.func36 rfl (by kernel_rfl) (by simp) ?_
  apply Run.ok
  simp
  refine after_call (thereJ_ev i m) ?_
  rintro r h' ⟨rfl, rfl⟩
  unfold endJ
  by_cases c : i < 0 ∨ (l.length : Int) ≤ i
  · rw [if_pos c, if_pos c]
    simp
    exact ⟨rfl, m, Upd.refl⟩
  · rw [if_neg c, if_neg c]
    by_cases c1 : num < 0
    · rw [if_pos (.inl c1)]
      simp [c1]
      exact ⟨rfl, m, Upd.refl⟩
    · by_cases c2 : 999 < num
      · rw [if_pos (.inr c2)]
        simp [c1, c2]
        exact ⟨rfl, m, Upd.refl⟩
      · rw [if_neg (by omega)]
        by_cases c3 : num = 0
        · rw [if_pos c3]
          subst c3
          simp
          refine after_call (jends_ev m i badge 5 0) ?_
          rintro r h2 ⟨rfl, q1, q2⟩
          simp
          exact ⟨rfl, q1, q2⟩
        · rw [if_neg c3]
          have c3' : (num == 0) = false := by simpa using c3
          simp [c1, c2, c3']
          refine after_call (jends_ev m i badge 6 num) ?_
          rintro r h2 ⟨rfl, q1, q2⟩
          simp
          exact ⟨rfl, q1, q2⟩
theorem jlose_ev (m : JM h k b jv lv js l) (i badge : Int) :
    EvA Try.prog 57 [.pointer (some ⟨b, 0, none⟩), .int .i64 i, .int .i64 badge] (Did h k b jv lv js (endsJ js l i badge 7 0)) h := by
  refine EvA.body Try.func57 rfl (by kernel_rfl) (by simp) ?_
  apply Run.ok
  simp
  refine after_call (jends_ev m i badge 7 0) ?_
  rintro r h2 ⟨rfl, q1, q2⟩
  simp
  exact ⟨rfl, q1, q2⟩
theorem jstop_ev (m : JM h k b jv lv js l) (i badge : Int) :
    EvA Try.prog 52 [.pointer (some ⟨b, 0, none⟩), .int .i64 i, .int .i64 badge] (Did h k b jv lv js (endsJ js l i badge 8 0)) h := by
  refine EvA.body Try.func52 rfl (by kernel_rfl) (by simp) ?_
  apply Run.ok
  simp
  refine after_call (jends_ev m i badge 8 0) ?_
  rintro r h2 ⟨rfl, q1, q2⟩
  simp
  exact ⟨rfl, q1, q2⟩
theorem jfull_ev (m : JM h k b jv lv js l) (i badge : Int) :
    EvA Try.prog 53 [.pointer (some ⟨b, 0, none⟩), .int .i64 i, .int .i64 badge] (Did h k b jv lv js (endsJ js l i badge 11 0)) h := by
  refine EvA.body Try.func53 rfl (by kernel_rfl) (by simp) ?_
  apply Run.ok
  simp
  refine after_call (jends_ev m i badge 11 0) ?_
  rintro r h2 ⟨rfl, q1, q2⟩
  simp
  exact ⟨rfl, q1, q2⟩
set_option maxHeartbeats 1000000 in
theorem jcancel_ev (m : JM h k b jv lv js l) (i : Int) :
    EvA Try.prog 54 [.pointer (some ⟨b, 0, none⟩), .int .i64 i] (Did h k b jv lv js (cancelJ js l i)) h := by
  refine EvA.body Try.func54 rfl (by kernel_rfl) (by simp) ?_
  apply Run.ok
  simp
  refine after_call (thereJ_ev i m) ?_
  rintro r h' ⟨rfl, rfl⟩
  unfold cancelJ
  by_cases c : i < 0 ∨ (l.length : Int) ≤ i
  · rw [if_pos c, if_pos c]
    simp
    exact ⟨rfl, m, Upd.refl⟩
  · rw [if_neg c, if_neg c]
    obtain ⟨n, rfl⟩ : ∃ n : Nat, i = (n : Int) := ⟨i.toNat, by omega⟩
    rw [Int.toNat_natCast]
    have hn : n < l.length := by omega
    have l0 := m.l0
    have ia := m.ia hn .i64
    have c0 := m.c0 hn
    have c1 := m.c1 hn
    have c5 := m.c5 hn
    generalize l.getD n St.no = x at c1 c5 ⊢
    simp [l0, ia, c0, -load_ptr]
    refine after_call (ended_ev (stA l n) _) ?_
    rintro r h2 ⟨rfl, rfl⟩
    by_cases d : endS (stA l n) = true
    · rw [if_pos d, d]
      simp
      exact ⟨rfl, m, Upd.refl⟩
    · rw [if_neg d]
      have d' : endS (stA l n) = false := by simpa using d
      rw [d']
      obtain ⟨g3, q1, q2, q3⟩ := m.sta hn ⟨9, x.tried, 0, 0, 0, x.played⟩
      simp only [stA_cells] at q1
      simp [-store_ptr] at q1
      simp
      refine WpA.drawnA [0, 1, 2, 3, 4, 5, 6, 7, 8, 9, 10, 11] [[], [], [], [], [], [], [], [], [], [], [], [0, 1, 2, 3, 4, 5, 6, 7, 8, 9, 10]] (by kernel_rfl) (by decide +kernel) (by decide +kernel) ?_
      simp [c1, c5, spl, q1, -load_ptr, -store_ptr]
      refine after_call (settle_ev q2) ?_
      rintro r g4 ⟨q4, q5⟩
      simp
      exact ⟨rfl, q4, Upd.trans q3 q5 (fun _ _ h => h)⟩
theorem jplay_ev (m : JM h k b jv lv js l) (i : Int) :
    EvA Try.prog 35 [.pointer (some ⟨b, 0, none⟩), .int .i64 i] (Did h k b jv lv js (playJ js l i)) h := by
  refine EvA.body Try.func35 rfl (by kernel_rfl) (by simp) ?_
  apply Run.ok
  simp
  refine after_call (thereJ_ev i m) ?_
  rintro r h' ⟨rfl, rfl⟩
  unfold playJ
  by_cases c : i < 0 ∨ (l.length : Int) ≤ i
  · rw [if_pos c, if_pos c]
    simp
    exact ⟨rfl, m, Upd.refl⟩
  · rw [if_neg c, if_neg c]
    obtain ⟨n, rfl⟩ : ∃ n : Nat, i = (n : Int) := ⟨i.toNat, by omega⟩
    rw [Int.toNat_natCast]
    have hn : n < l.length := by omega
    have l0 := m.l0
    have ia := m.ia hn .i64
    have c0 := m.c0 hn
    by_cases d : stA l n = 2
    · rw [if_neg (by omega)]
      have d' : ((stA l n : Int) != 2) = false := by simp; omega
      obtain ⟨g3, q1, q2, q3⟩ := m.st5 hn true
      obtain ⟨g4, p1, p2, p3⟩ := q2.st0 (i := n) (by simpa using hn) 1
      have he : setS (l.set n { l.getD n St.no with played := true }) n 1 = l.set n ⟨1, (l.getD n St.no).tried, (l.getD n St.no).badge, (l.getD n St.no).since, (l.getD n St.no).code, true⟩ := by
        unfold setS
        rw [List.set_set, getD_set l _ hn, if_pos rfl]; rfl
      rw [he] at p2
      simp [-store_ptr] at p1 q1
      simp [l0, ia, c0, d', q1, p1, -load_ptr, -store_ptr]
      refine after_call (settle_ev p2) ?_
      rintro r g5 ⟨q4, q5⟩
      simp
      exact ⟨rfl, q4, Upd.trans (Upd.trans q3 p3 (fun _ _ h => h)) q5 (fun _ _ h => h)⟩
    · rw [if_pos d]
      have d' : ((stA l n : Int) != 2) = true := by simp; omega
      simp [l0, ia, c0, d', -load_ptr]
      exact ⟨rfl, m, Upd.refl⟩
def Sp.cells (p : Sp) : List Value := [.int .u8 p.kind, .int .i64 p.i, .int .i64 p.badge, .int .i64 p.n]
set_option maxHeartbeats 1000000 in
theorem jdo_ev (m : JM h k b jv lv js l) (p : Sp) (hT : ∀ x ∈ l, x.tried ≤ 5 ∧ -5 ≤ x.tried) :
    EvA Try.prog 32 [.pointer (some ⟨b, 0, none⟩), .agg p.cells.toArray] (Did h k b jv lv js (doJ js l p)) h := by
  refine EvA.body Try.func32 rfl (by kernel_rfl) (by simp) ?_
  apply Run.ok
  obtain ⟨kd, pi, pb, pn⟩ := p
  simp [Sp.cells]
  have sA : Same h (h ++ [.cells [.int .u8 kd, .int .i64 pi, .int .i64 pb, .int .i64 pn] false none]) := Same.new _
  have hsA : (h ++ [Blk.cells [.int .u8 kd, .int .i64 pi, .int .i64 pb, .int .i64 pn] false none])[h.length]? = some (.cells [.int .u8 kd, .int .i64 pi, .int .i64 pb, .int .i64 pn] false none) := by simp
  generalize h ++ [Blk.cells [.int .u8 kd, .int .i64 pi, .int .i64 pb, .int .i64 pn] false none] = gA at sA hsA ⊢
  have MA := m.same sA
  have k0 : loadA Try.prog 5 (.pointer (some ⟨h.length, 0, none⟩)) gA = some (.int .u8 kd) := by rw [load_at hsA (by simp)]; rfl
  have k1 : loadA Try.prog 3 (.pointer (some ⟨h.length, 1, none⟩)) gA = some (.int .i64 pi) := by rw [load_at hsA (by simp)]; rfl
  have k2 : loadA Try.prog 3 (.pointer (some ⟨h.length, 2, none⟩)) gA = some (.int .i64 pb) := by rw [load_at hsA (by simp)]; rfl
  have k3 : loadA Try.prog 3 (.pointer (some ⟨h.length, 3, none⟩)) gA = some (.int .i64 pn) := by rw [load_at hsA (by simp)]; rfl
  have fin : ∀ {o : Int × List St} {h' : Hp} {r : Value}, Did gA k b jv lv js o r h' → Did h k b jv lv js o r h' := fun ⟨a, b, c⟩ => ⟨a, b, Upd.trans (sA.mono fun _ _ h => h.elim) c (fun _ _ h => h)⟩
  unfold doJ
  simp only
  by_cases c0 : kd = 0
  · rw [if_pos c0]
    simp [k0, c0, k1, k2, k3, -load_ptr]
    refine after_call (jstart_ev MA pi pb pn hT) ?_
    rintro r h2 q
    have q := fin q
    obtain ⟨rfl, _⟩ := id q
    simp
    exact q
  rw [if_neg c0]
  have c0' : (kd == 0) = false := by simpa using c0
  by_cases c1 : kd = 1
  · rw [if_pos c1]
    simp [k0, c0', c1, k1, k2, k3, -load_ptr]
    refine after_call (jend_ev MA pi pb pn) ?_
    rintro r h2 q
    have q := fin q
    obtain ⟨rfl, _⟩ := id q
    simp
    exact q
  rw [if_neg c1]
  have c1' : (kd == 1) = false := by simpa using c1
  by_cases c2 : kd = 2
  · rw [if_pos c2]
    simp [k0, c0', c1', c2, k1, k2, k3, -load_ptr]
    refine after_call (jlose_ev MA pi pb) ?_
    rintro r h2 q
    have q := fin q
    obtain ⟨rfl, _⟩ := id q
    simp
    exact q
  rw [if_neg c2]
  have c2' : (kd == 2) = false := by simpa using c2
  by_cases c3 : kd = 3
  · rw [if_pos c3]
    simp [k0, c0', c1', c2', c3, k1, k2, k3, -load_ptr]
    refine after_call (jstop_ev MA pi pb) ?_
    rintro r h2 q
    have q := fin q
    obtain ⟨rfl, _⟩ := id q
    simp
    exact q
  rw [if_neg c3]
  have c3' : (kd == 3) = false := by simpa using c3
  by_cases c4 : kd = 4
  · rw [if_pos c4]
    simp [k0, c0', c1', c2', c3', c4, k1, k2, k3, -load_ptr]
    refine after_call (jfull_ev MA pi pb) ?_
    rintro r h2 q
    have q := fin q
    obtain ⟨rfl, _⟩ := id q
    simp
    exact q
  rw [if_neg c4]
  have c4' : (kd == 4) = false := by simpa using c4
  by_cases c5 : kd = 5
  · rw [if_pos c5]
    simp [k0, c0', c1', c2', c3', c4', c5, k1, k2, k3, -load_ptr]
    refine after_call (jcancel_ev MA pi) ?_
    rintro r h2 q
    have q := fin q
    obtain ⟨rfl, _⟩ := id q
    simp
    exact q
  rw [if_neg c5]
  have c5' : (kd == 5) = false := by simpa using c5
  simp [k0, c0', c1', c2', c3', c4', c5', k1, k2, k3, -load_ptr]
  refine after_call (jplay_ev MA pi) ?_
  rintro r h2 q
  have q := fin q
  obtain ⟨rfl, _⟩ := id q
  simp
  exact q
end
end Go.Proofs.Ytklhioaokogpdaa
