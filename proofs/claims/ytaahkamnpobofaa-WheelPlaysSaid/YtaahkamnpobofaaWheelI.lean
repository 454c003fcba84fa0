/- Things that are due: New, Len, Next, Due; no condition. -/
import Derived.Test.YtaahkamnpobofaaWheelH
import Derived.Test.YtaahkamnpobofaaBadgeD
namespace Go.Proofs.Ytaahkamnpobofaa
open Go.Ab
theorem newW_ev (h : Hp) : EvA Try.prog 20 [] (fun r h' => r = .pointer (some ⟨h.length + 1, 0, none⟩) ∧ WM h' h.length (h.length + 1) h.length (.slice none 0 0) [] [] ∧ Same h h') h := by
  refine EvA.body Try.func20 rfl (by kernel_rfl) (by simp) ?_
  apply Run.ok
  simp [spl]
  exact ⟨⟨by simp, Ow.nil _, by simp [MapAt], fun j hj => (by obtain ⟨a, n, c, he, _⟩ := hj; cases he), by omega, by omega, by omega⟩, Same.new _⟩
section
variable {k d b : Nat} {h g : Hp} {v v' : Value} {H H' : List Th} {M : List (Int × Int)} {L : List Th} {S : Nat → Prop}
theorem lenW_ev (m : WM h k d b v H M) (w : WOk H M L) : EvA Try.prog 24 [.pointer (some ⟨d, 0, none⟩)] (fun r h' => h' = h ∧ r = .int .i64 (L.length : Nat)) h := by
  refine EvA.body Try.func24 rfl (by kernel_rfl) (by simp) ?_
  apply Run.ok
  have l1 := m.l1
  have sz := m.size
  rw [w.len] at sz
  simp [l1, sz, -load_ptr]
def nextV (L : List Th) : Value := match L with
  | [] => .tuple #[.int .i64 0, .bool false]
  | x :: _ => .tuple #[.int .i64 x.due, .bool true]
theorem nextW_ev (m : WM h k d b v H M) (w : WOk H M L) (hl : H.length ≤ 1000000000) :
    EvA Try.prog 23 [.pointer (some ⟨d, 0, none⟩)] (fun r h' => r = nextV L ∧ ∃ v' H', WM h' k d b v' H' M ∧ WOk H' M L ∧ Upd (fun j => j = d ∨ inRow v j) h h' ∧ (∀ j, inRow v' j → inRow v j) ∧ H'.length ≤ H.length) h := by
  refine EvA.body Try.func23 rfl (by kernel_rfl) (by simp) ?_
  apply Run.ok
  simp
  refine after_call (top_ev m w hl) ?_
  rintro r g ⟨rfl, v1, H1, m1, w1, u1, n1, l1, _⟩
  cases L with
  | nil =>
    have sn : Same g (g ++ [Blk.cells [.int .i64 0, .int .i64 0] false none]) := Same.new _
    simp [topV, spl]
    exact ⟨rfl, v1, H1, m1.same sn, w1, u1.trans (sn.mono fun _ _ h => h.elim) fun _ _ e => e, n1, l1⟩
  | cons x T =>
    have sn : Same g (g ++ [Blk.cells [.int .i64 x.due, .int .i64 x.key] false none]) := Same.new _
    simp [topV, spl]
    exact ⟨rfl, v1, H1, m1.same sn, w1, u1.trans (sn.mono fun _ _ h => h.elim) fun _ _ e => e, n1, l1⟩
def intL (l : List Int) : List Value := l.map fun n => .int .i64 n
/-- in the midst of Due -/
inductive DueS (h : Hp) (k d b : Nat) (v0 : Value) (B : Nat) (now : Int) (L : List Th) (out : List Int) (g : Hp) : Prop
  | mk (v : Value) (H : List Th) (M : List (Int × Int)) (ov : Value) (m : WM g k d b v H M) (w : WOk H M L) (hl : H.length ≤ B) (n : ∀ j, inRow v j → inRow v0 j)
      (cw : g[h.length]? = some (.cells [.pointer (some ⟨d, 0, none⟩)] false none)) (cn : g[h.length + 1]? = some (.cells [.int .i64 now] false none)) (co : g[h.length + 2]? = some (.cells [ov] false none))
      (A : Acc (h.length + 3) g 1 ov out.length (intL out)) (u : Upd (fun j => j = d ∨ j = b ∨ inRow v0 j) h g)
set_option maxHeartbeats 4000000 in
theorem due1_ev {v0 : Value} {B : Nat} {now : Int} {out : List Int} (hd : d < h.length) (hb : b < h.length) (ab : ∀ j, inRow v0 j → j < h.length) (hB : B ≤ 1000000000) (ho : out.length ≤ 1000000000) (s : DueS h k d b v0 B now L out g) :
    EvA Try.prog 61 [.pointer (some ⟨h.length, 0, none⟩), .pointer (some ⟨h.length + 1, 0, none⟩), .pointer (some ⟨h.length + 2, 0, none⟩)]
      (fun r g' => (r = .bool false ∧ (∀ x T, L = x :: T → now < x.due) ∧ DueS h k d b v0 B now L out g') ∨ (∃ x T, L = x :: T ∧ x.due ≤ now ∧ r = .bool true ∧ DueS h k d b v0 B now T (out ++ [x.key]) g')) g := by
  refine EvA.body Try.func61 rfl (by kernel_rfl) (by simp) ?_
  apply Run.ok
  obtain ⟨v, H, M, ov, m, w, hl, n, cw, cn, co, A, u⟩ := s
  obtain ⟨c, hc⟩ : ∃ c, c = h.length := ⟨_, rfl⟩
  rw [← hc] at cw cn co A ab hd hb ⊢
  have lw := load_at (P := Try.prog) (t := 34) (o := 0) cw (by simp)
  simp only [List.getElem?_cons_zero] at lw
  simp [lw, -load_ptr]
  refine after_call (top_ev m w (by omega)) ?_
  rintro r g1 ⟨rfl, v1, H1, m1, w1, u1, n1, l1, hd1⟩
  have nc : ∀ j, inRow v j → j < c := fun j hj => ab j (n j hj)
  have nr : ∀ j, inRow v1 j → j < c := fun j hj => nc j (n1 j hj)
  have cw1 := u1.at cw (fun e => by rcases e with e | e; omega; have := nc _ e; omega)
  have cn1 := u1.at cn (fun e => by rcases e with e | e; omega; have := nc _ e; omega)
  have co1 := u1.at co (fun e => by rcases e with e | e; omega; have := nc _ e; omega)
  have A1 := A.upd u1 (fun j hj e => by have := (A.above j hj).1; rcases e with e | e; omega; have := nc _ e; omega)
  have u01 : Upd (fun j => j = d ∨ j = b ∨ inRow v0 j) h g1 := Upd.trans u u1 fun j hj e => by rcases e with e | e; exact .inl e; exact .inr (.inr (n j e))
  cases L with
  | nil =>
    have sn : Same g1 (g1 ++ [Blk.cells [.int .i64 0, .int .i64 0] false none]) := Same.new _
    simp [topV, spl]
    exact ⟨v1, H1, M, ov, m1.same sn, w1, by omega, fun j hj => n j (n1 j hj), by rw [← hc]; exact sn.at cw1, by rw [← hc]; exact sn.at cn1, by rw [← hc]; exact sn.at co1, by rw [← hc]; exact A1.same sn, u01.trans (sn.mono fun _ _ h => h.elim) fun _ _ e => e⟩
  | cons x T =>
    obtain ⟨h0, hx0⟩ := hd1 x T rfl
    have sn : Same g1 (g1 ++ [Blk.cells x.cells false none]) := Same.new _
    have hn : (g1 ++ [Blk.cells x.cells false none])[g1.length]? = some (.cells x.cells false none) := by simp
    obtain ⟨g2, hg2⟩ : ∃ g2, g2 = g1 ++ [Blk.cells x.cells false none] := ⟨_, rfl⟩
    rw [← hg2] at sn hn
    have hg2' : g1 ++ [Blk.cells [.int .i64 x.due, .int .i64 x.key] false none] = g2 := hg2.symm
    have m2 := m1.same sn
    have cw2 := sn.at cw1
    have cn2 := sn.at cn1
    have co2 := sn.at co1
    have A2 := A1.same sn
    have u02 := u01.trans (sn.mono (S' := fun _ => False) fun _ _ h => h.elim) fun _ _ e => e.elim
    have x0 := load_at (P := Try.prog) (t := 3) (o := 0) hn (by simp)
    have ln := load_at (P := Try.prog) (t := 3) (o := 0) cn2 (by simp)
    have lw2 := load_at (P := Try.prog) (t := 34) (o := 0) cw2 (by simp)
    simp only [Th.cells, List.getElem?_cons_zero] at x0 ln lw2
    by_cases hnow : now < x.due
    · simp [topV, spl, hg2', x0, ln, hnow, -load_ptr]
      exact ⟨v1, H1, M, ov, m2, w1, by omega, fun j hj => n j (n1 j hj), by rw [← hc]; exact cw2, by rw [← hc]; exact cn2, by rw [← hc]; exact co2, by rw [← hc]; exact A2, u02⟩
    · simp [topV, spl, hg2', x0, ln, hnow, lw2, -load_ptr]
      refine after_call (pop_ev m2 w1.heap h0 (by omega)) ?_
      rintro r g3 ⟨_, v3, H3, p3, hh3, m3, u3, n3⟩
      have hlen3 := p3.length_eq
      simp at hlen3
      have hg1l : g1.length < g2.length := hp_lt hn
      have cl : c + 2 < g1.length := hp_lt co1
      have nr3 : ∀ j, inRow v3 j → j < c := fun j hj => nr j (n3 j hj)
      have w3 := w1.take hx0 p3 hh3
      have hq : lk x.key M = some x.due := (w1.map _ _).2 (by simp)
      have cw3 := u3.at cw2 (fun e => by rcases e with e | e; omega; have := nr _ e; omega)
      have cn3 := u3.at cn2 (fun e => by rcases e with e | e; omega; have := nr _ e; omega)
      have co3 := u3.at co2 (fun e => by rcases e with e | e; omega; have := nr _ e; omega)
      have hn3 := u3.at hn (fun e => by rcases e with e | e; omega; have := nr _ e; omega)
      have A3 := A2.upd u3 (fun j hj e => by have := (A.above j hj).1; rcases e with e | e; omega; have := nr _ e; omega)
      have u03 := Upd.trans u02 u3 fun j hj e => by rcases e with e | e; exact .inl e; exact .inr (.inr (n j (n1 j e)))
      obtain ⟨g4, e4, m4, u4⟩ := m3.delA hq
      have cw4 := u4.at cw3 (by omega)
      have cn4 := u4.at cn3 (by omega)
      have co4 := u4.at co3 (by omega)
      have hn4 := u4.at hn3 (by omega)
      have A4 := A3.upd u4 (fun j hj e => by have := (A.above j hj).1; omega)
      have u04 := Upd.trans u03 u4 fun j hj e => .inr (.inl e)
      have lw3 := load_at (P := Try.prog) (t := 34) (o := 0) cw3 (by simp)
      have l13 := m3.l1
      have x1 := load_at (P := Try.prog) (t := 3) (o := 1) hn3 (by simp)
      have x1' := load_at (P := Try.prog) (t := 3) (o := 1) hn4 (by simp)
      have lo4 := load_at (P := Try.prog) (t := 22) (o := 0) co4 (by simp)
      have lw4 := load_at (P := Try.prog) (t := 34) (o := 0) cw4 (by simp)
      have l14 := m4.l1
      simp only [Th.cells, List.getElem?_cons_zero, List.getElem?_cons_succ] at lw3 x1 x1' lo4 lw4
      have hl4 : c + 3 ≤ g4.length := by have := hp_lt co4; omega
      obtain ⟨ov', g5, e5, A5, u5, n5⟩ := appI4 A4 hl4 ho x.key
      have sx : Same g4 (g4 ++ [Blk.cells [.int .i64 x.key] false none]) := Same.new _
      have na : ∀ j, inRow ov j → c + 3 ≤ j := fun j hj => (A.above j hj).1
      have m5 := (m4.same sx).upd u5 (fun e => by have := na _ e; omega) (fun e => by have := na _ e; omega) (fun j hj e => by have := na _ e; have := nr3 j hj; omega)
      have cw5 := u5.at (sx.at cw4) (fun e => by have := na _ e; omega)
      have cn5 := u5.at (sx.at cn4) (fun e => by have := na _ e; omega)
      have co5 := u5.at (sx.at co4) (fun e => by have := na _ e; omega)
      have u05 := Upd.trans (Upd.trans u04 (sx.mono (S' := fun _ => False) fun _ _ h => h.elim) fun _ _ e => e.elim) u5 fun j hj e => by have := na _ e; omega
      have hlt5 := hp_lt co5
      have hcv := (Row.one A5.row).1
      have hov := (Row.one A5.row).2
      have e6 : storeA Try.prog 22 (.pointer (some ⟨c + 2, 0, none⟩)) ov' g5 = some (g5.set (c + 2) (.cells [ov'] false none)) := by simp [storeA, co5, hcv, hov, spl]
      have u6 : Upd (fun j => j = c + 2) g5 (g5.set (c + 2) (.cells [ov'] false none)) := Upd.set (S := (· = c + 2)) rfl _
      have co6 : (g5.set (c + 2) (.cells [ov'] false none))[c + 2]? = some (.cells [ov'] false none) := by simp [hlt5]
      have na' : ∀ j, inRow ov' j → c + 3 ≤ j := fun j hj => by
        rcases n5 j hj with e | e
        · exact na j e
        · omega
      have m6 := m5.upd u6 (by omega) (by omega) (fun j hj e => by have := nr3 j hj; omega)
      have cw6 := u6.at cw5 (by omega)
      have cn6 := u6.at cn5 (by omega)
      have A6 := A5.upd u6 (fun j hj e => by have := na' j hj; omega)
      have u06 := Upd.trans u05 u6 fun j hj e => by omega
      generalize g5.set (c + 2) (.cells [ov'] false none) = g6 at e6 co6 m6 cw6 cn6 A6 u06
      simp
      refine WpA.drawnA [0, 1, 2, 3, 4, 5, 6] [] (by kernel_rfl) (by decide +kernel) (by decide +kernel) ?_
      simp [lw3, l13, x1, e4, x1', lw4, l14, lo4, zeros, spl, capO, e5, e6, -load_ptr, -store_ptr]
      exact ⟨x, T, ⟨rfl, rfl⟩, by omega, v3, H3, _, ov', m6, w3, by omega, fun j hj => n j (n1 j (n3 j hj)), by rw [← hc]; exact cw6, by rw [← hc]; exact cn6, by rw [← hc]; exact co6, by rw [← hc]; simpa [intL] using A6, u06⟩
end
end Go.Proofs.Ytaahkamnpobofaa
