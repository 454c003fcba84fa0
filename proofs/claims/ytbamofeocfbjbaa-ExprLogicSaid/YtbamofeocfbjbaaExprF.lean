/- Conditions: Parse, Eval, Words, Texts, Value; no condition. -/
import Derived.Test.YtbamofeocfbjbaaExprE
namespace Go.Proofs.Ytbamofeocfbjbaa
open Go.Ab Go.Glob
theorem termOk : ∀ n, TermOk n := by
  intro n
  induction n using Nat.strongRecOn with
  | _ n ih =>
    intro ws hn g pb k wv tv ts d m
    rcases Nat.eq_zero_or_pos ws.length with h0 | h0
    · exact term_ev (fun k hk => by omega) m
    · exact term_ev (fun k hk => ih k (by omega)) m
theorem rowOk (n : Nat) : RowOk n := row_ev (termOk n)
/-- a condition in memory: its blocks lie from lo up to hi -/
structure ExprR (h : Hp) (lo hi b : Nat) (v : Bool) (ws ts : List Bs) : Prop where
  ex : ∃ top wv tv, h[b]? = some (.cells [top, wv, tv] false none) ∧ Means (fun j => lo ≤ j ∧ j < hi) h top v ∧ SRow h wv ws ∧ SRow h tv ts ∧ (∀ j, inRow wv j → lo ≤ j ∧ j < hi) ∧ (∀ j, inRow tv j → lo ≤ j ∧ j < hi)
  at_ : lo ≤ b ∧ b < hi
section
variable {h h' g : Hp} {lo hi b : Nat} {v : Bool} {ws ts : List Bs} {S : Nat → Prop}
theorem ExprR.upd (m : ExprR h lo hi b v ws ts) (u : Upd S h h') (hs : ∀ j, lo ≤ j → j < hi → ¬ S j) : ExprR h' lo hi b v ws ts := by
  obtain ⟨⟨top, wv, tv, a, c, d, e, f, i⟩, j⟩ := m
  exact ⟨⟨top, wv, tv, u.at a (hs _ j.1 j.2), c.upd u fun x hx => hs x hx.1 hx.2, d.upd u fun x hx => hs x (f x hx).1 (f x hx).2, e.upd u fun x hx => hs x (i x hx).1 (i x hx).2, f, i⟩, j⟩
theorem ExprR.same (m : ExprR h lo hi b v ws ts) (u : Same h h') : ExprR h' lo hi b v ws ts := m.upd u fun _ _ _ h => h
theorem eval_ev (m : ExprR h lo hi b v ws ts) : EvA Try.prog 21 [.pointer (some ⟨b, 0, none⟩)] (fun r h' => r = .bool v ∧ Same h h') h := by
  refine EvA.body Try.func21 rfl (by kernel_rfl) (by simp) ?_
  apply Run.ok
  obtain ⟨⟨top, wv, tv, a, c, d, e, f, i⟩, j⟩ := m
  obtain ⟨t, y, rfl⟩ := c.iface
  have l0 : loadA Try.prog 20 (.pointer (some ⟨b, 0, none⟩)) h = some (.iface t y) := by rw [load_at a (by simp)]; rfl
  simp [l0, -load_ptr]
  refine after_call (holds_ev c h Same.refl) ?_
  rintro r g ⟨rfl, s⟩
  simp
  exact s
theorem evalNil_ev : EvA Try.prog 21 [.pointer none] (fun r h' => r = .bool false ∧ h' = h) h := by
  refine EvA.body Try.func21 rfl (by kernel_rfl) (by simp) ?_
  apply Run.ok
  simp
theorem words_ev (m : ExprR h lo hi b v ws ts) (hl : ws.length ≤ 1000000000) : EvA Try.prog 22 [.pointer (some ⟨b, 0, none⟩)] (fun r h' => Acc h.length h' 1 r ws.length (ws.map str) ∧ Same h h') h := by
  refine EvA.body Try.func22 rfl (by kernel_rfl) (by simp) ?_
  apply Run.ok
  obtain ⟨⟨top, wv, tv, a, c, d, e, f, i⟩, j⟩ := m
  have l0 : loadA Try.prog 22 (.pointer (some ⟨b, 1, none⟩)) h = some wv := by rw [load_at a (by simp)]; rfl
  simp [l0, -load_ptr]
  refine after_call (clone_ev d hl) ?_
  rintro r g ⟨q1, q2⟩
  simp
  exact ⟨q1, q2⟩
theorem texts_ev (m : ExprR h lo hi b v ws ts) (hl : ts.length ≤ 1000000000) : EvA Try.prog 23 [.pointer (some ⟨b, 0, none⟩)] (fun r h' => Acc h.length h' 1 r ts.length (ts.map str) ∧ Same h h') h := by
  refine EvA.body Try.func23 rfl (by kernel_rfl) (by simp) ?_
  apply Run.ok
  obtain ⟨⟨top, wv, tv, a, c, d, e, f, i⟩, j⟩ := m
  have l0 : loadA Try.prog 22 (.pointer (some ⟨b, 2, none⟩)) h = some tv := by rw [load_at a (by simp)]; rfl
  simp [l0, -load_ptr]
  refine after_call (clone_ev e hl) ?_
  rintro r g ⟨q1, q2⟩
  simp
  exact ⟨q1, q2⟩
/-- what Parse answers -/
def ParsePost (h : Hp) (ws : List Bs) (r : Value) (h' : Hp) : Prop := Same h h' ∧ match valueE ws with
  | .bad e => r = .tuple #[.pointer none, .int .i64 (e : Nat)]
  | .ok v t _ => t.length ≤ 1000000 ∧ ∃ b, r = .tuple #[.pointer (some ⟨b, 0, none⟩), .int .i64 0] ∧ ExprR h' h.length h'.length b v ws t
set_option maxHeartbeats 2000000 in
set_option maxRecDepth 6000 in
theorem parse_ev {w : Value} (hw : SRow h w ws) (hl : ws.length ≤ 1000000) (hsz : ∀ x ∈ ws, x.length < 1000000000) :
    EvA Try.prog 25 [w] (ParsePost h ws) h := by
  refine EvA.body Try.func25 rfl (by kernel_rfl) (by simp) ?_
  apply Run.ok
  simp
  refine after_call (clone_ev hw (by omega)) ?_
  rintro wv g1 ⟨A1, s1⟩
  have hc1 := (Row.one A1.row).1
  have ho1 := (Row.one A1.row).2
  simp [hc1, ho1, spl]
  have s2 : Same g1 (g1 ++ [.cells [wv, .slice none 0 0, .int .i64 0] false none]) := Same.new _
  have hB : (g1 ++ [Blk.cells [wv, .slice none 0 0, .int .i64 0] false none])[g1.length]? = some (.cells [wv, .slice none 0 0, .int .i64 0] false none) := by simp
  have hl2 : (g1 ++ [Blk.cells [wv, .slice none 0 0, .int .i64 0] false none]).length = g1.length + 1 := by simp
  generalize g1 ++ [Blk.cells [wv, .slice none 0 0, .int .i64 0] false none] = g2 at s2 hB hl2 ⊢
  have hg1 := s1.len
  have M : PS g2 g1.length (g1.length + 1) wv (.slice none 0 0) ws [] 0 := ⟨hB, (A1.same s2).sl, Acc.nil _, by omega, fun j hj => by have := (A1.above j hj).2; omega, by omega, hsz, by simpa using hl, by omega⟩
  have hno : ∀ j, ¬ inRow (.slice none 0 0) j := fun j hj => by obtain ⟨a, n, c, he, _⟩ := hj; cases he
  refine after_call (rowOk ws.length ws (Nat.le_refl _) g2 _ _ _ _ _ _ M) ?_
  rintro r g3 ⟨x, e, rfl, hc, hone, hu, hq⟩
  have sm3 : Same h g3 := Upd.trans (s1.trans s2) hu fun j hj hin => by
    rcases hin with h1 | h1
    · omega
    · exact hno j h1
  have hg3 := hu.len
  have hbads := (bads_are _ ws (Nat.le_refl _)).2 0 false true
  unfold ParsePost valueE
  cases ho : rowE 0 false true ws with
  | bad c =>
    rw [ho] at hq
    obtain ⟨rfl, _⟩ := hq
    have hc0 := hbads _ ho
    have e' : ((e : Int) != 0) = true := by simp; omega
    simp [e']
    exact sm3
  | ok v t rest =>
    rw [ho] at hq
    obtain ⟨rfl, wv', tv', M', htv, hm⟩ := hq
    have l0 := M'.l0
    have wl := M'.wl
    have hfew := M'.few
    rw [List.nil_append] at M' hfew
    cases rest with
    | cons q rest =>
      obtain ⟨L, hL⟩ : ∃ L, L = (q :: rest).length := ⟨_, rfl⟩
      have hL2 : L = rest.length + 1 := by rw [hL]; simp
      rw [← hL] at wl
      have c2 : 0 < L := by omega
      simp [l0, wl, c2, -load_ptr]
      exact sm3
    | nil =>
      simp at wl
      simp [l0, wl, -load_ptr]
      have l1 : ∀ {g : Hp}, Same g3 g → loadA Try.prog 22 (.pointer (some ⟨g1.length, 1, none⟩)) g = some tv' := fun s => (M'.same s).l1
      refine WpA.drawnA [0, 1, 3, 4, 5, 6, 2, 7, 8, 9, 10] [[], [], [1]] (by kernel_rfl) (by decide +kernel) (by decide +kernel) ?_
      have l13 := l1 (Same.refl (h := g3))
      simp [l13, -load_ptr]
      refine after_call (clone_ev (hw.same sm3) (by omega)) ?_
      rintro w4 g4 ⟨A4, s4⟩
      have l14 := l1 s4
      have hc4 := (Row.one A4.row).1
      have ho4 := (Row.one A4.row).2
      have hct := (Row.one M'.tr.row).1
      have hot := (Row.one M'.tr.row).2
      have s5 : Same g4 (g4 ++ [.cells [x, w4, tv'] false none]) := Same.new _
      have l15 := l1 (s4.trans s5)
      simp [l13, l14, l15, hc, hone, hc4, ho4, hct, hot, spl, -load_ptr]
      have hg4 := s4.len
      have hl5 : (g4 ++ [Blk.cells [x, w4, tv'] false none]).length = g4.length + 1 := by simp
      have htr : ∀ j, inRow tv' j → h.length ≤ j ∧ j < g3.length := fun j hj => by
        have h1 := M'.tr.above j hj
        omega
      refine ⟨(sm3.trans s4).trans s5, by simp at hfew; omega, ⟨⟨x, w4, tv', by simp, ((hm.same s4).same s5).mono fun j hj => ⟨by omega, by omega⟩, (A4.same s5).row, ((M'.tr.same s4).same s5).row, fun j hj => ?_, fun j hj => ?_⟩, by omega, by omega⟩⟩
      · have := A4.above j hj; omega
      · have := htr j hj; omega
/-- what Value answers -/
theorem value_ev {w : Value} (hw : SRow h w ws) (hl : ws.length ≤ 1000000) (hsz : ∀ x ∈ ws, x.length < 1000000000) :
    EvA Try.prog 18 [w] (fun r h' => Same h h' ∧ r = match valueE ws with | .bad e => .tuple #[.bool false, .int .i64 (e : Nat)] | .ok v _ _ => .tuple #[.bool v, .int .i64 0]) h := by
  refine EvA.body Try.func18 rfl (by kernel_rfl) (by simp) ?_
  apply Run.ok
  simp
  refine after_call (parse_ev hw hl hsz) ?_
  rintro r g ⟨sm, hq⟩
  cases ho : valueE ws with
  | bad e =>
    rw [ho] at hq
    obtain rfl := hq
    simp
    refine after_call evalNil_ev ?_
    rintro r g ⟨rfl, rfl⟩
    simp
    exact sm
  | ok v t rest =>
    rw [ho] at hq
    obtain ⟨_, b, rfl, R⟩ := hq
    simp
    refine after_call (eval_ev R) ?_
    rintro r g2 ⟨rfl, s2⟩
    simp
    exact sm.trans s2
end
end Go.Proofs.Ytbamofeocfbjbaa
