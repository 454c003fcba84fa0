/- Jobs and the document's, side by side: bytes, what is late, ready and over, and that lists are one; no condition. -/
import Derived.Test.YtklhioaokogpdaaRefK
namespace Go.Proofs.Ytklhioaokogpdaa
open Go.Ab
theorem flag_lay_ev (v : Value) (l : List UInt8) (p : Bool) (h : Hp) (hb : Bytes h v l) (hl : l.length < 1099511627000) :
    EvA Try.prog 103 [v, .bool p] (fun r h' => BAcc h.length h' r (l ++ [if p then 1 else 0]) ∧ Same h h') h := by
  refine EvA.body Try.func103 rfl (by kernel_rfl) (by simp) ?_
  apply Run.ok
  cases p with
  | true =>
    simp
    refine after_call (lay_ev v l 1 ⟨#[]⟩ h hb (by omega) (by omega) (by decide)) ?_
    rintro r h' ⟨q1, q2⟩
    simp
    exact ⟨by simpa [enc_small] using q1, q2⟩
  | false =>
    simp
    refine after_call (lay_ev v l 0 ⟨#[]⟩ h hb (by omega) (by omega) (by decide)) ?_
    rintro r h' ⟨q1, q2⟩
    simp
    exact ⟨by simpa [enc_small] using q1, q2⟩
theorem jints_ev {h : Hp} {u w : Value} {L : List Int} (hu : Row h 1 u L.length (L.map intV)) (hw : Row h 1 w L.length (L.map intV)) (hl : L.length ≤ 1000000000) :
    EvA Try.prog 18 [u, w] (fun r h' => h' = h ∧ r = .bool true) h := by
  refine EvA.body Try.func18 rfl (by kernel_rfl) (by simp) ?_
  apply Run.ok
  have lu := hu.len (P := Try.prog) (t := 35) (e := 3) (by simp)
  have lw := hw.len (P := Try.prog) (t := 35) (e := 3) (by simp)
  simp [lu, lw]
  refine WpA.loop (fun z fr g => ∃ i, z = L.length - i ∧ i ≤ L.length ∧ fr 0 = u ∧ fr 1 = w ∧ fr 5 = .int .i64 (i : Nat) ∧ g = h)
    (k := L.length) ⟨0, by simp, by omega, by simp, by simp, by simp, rfl⟩ ?_
  rintro z fr g ⟨i, rfl, hi, f0, f1, f5, rfl⟩
  apply Run.ok
  by_cases c : i < L.length
  · have c' : (i : Int) < L.length := by omega
    have w1 : IntKind.i64.wrap ((i : Int) + 1) = (i : Int) + 1 := wrap_i64 (by omega) (by omega)
    have ia := hu.ia1 (P := Try.prog) (t := 35) (e := 3) (by simp) (by simp) c .i64
    have ia2 := hw.ia1 (P := Try.prog) (t := 35) (e := 3) (by simp) (by simp) c .i64
    have ld := hu.ld1 (P := Try.prog) (f := 3) (by simp) c
    have ld2 := hw.ld1 (P := Try.prog) (f := 3) (by simp) c
    rw [List.getElem?_map, List.getElem?_eq_getElem c] at ld ld2
    simp only [Option.map_some, intV] at ld ld2
    generalize L[i] = x at ld ld2
    simp [f0, f1, f5, lu, c', -load_ptr]
    refine WpA.drawnA [0, 1, 2, 3, 4, 5, 6, 7, 8] [] (by kernel_rfl) (by decide +kernel) (by decide +kernel) ?_
    simp [f0, f1, f5, ia, ia2, ld, ld2, w1, -load_ptr, -roundQ_normal, ↓rq]
    refine stop_intro ⟨L.length - (i + 1), by omega, i + 1, rfl, by omega, by simp [f0], by simp [f1], by simp, rfl⟩
  · have c' : ¬ (i : Int) < L.length := by omega
    simp [f0, f1, f5, lu, c']
/-- the values of a status, as they are laid -/
def vals (x : St) : List Int := [x.s, x.tried, x.badge, x.since, x.code]
section
variable {h h' : Hp} {k b c : Nat} {jv lv pv rv : Value} {js : List Jb} {l : List St} {ps : List Pj}
set_option maxHeartbeats 1000000 in
set_option maxRecDepth 6000 in
theorem jbytes_ev (m : JM h k b jv lv js l) (hv : ∀ x ∈ l, ValOk x) :
    EvA Try.prog 58 [.pointer (some ⟨b, 0, none⟩)] (fun r h' => BAcc h.length h' r (l.flatMap stB) ∧ Same h h') h := by
  refine EvA.body Try.func58 rfl (by kernel_rfl) (by simp) ?_
  apply Run.ok
  have h24 := m.l24
  have l0t : ∀ t, loadA Try.prog 56 (.pointer (some ⟨b, 1, none⟩)) (h ++ t) = some lv := fun t => (m.same (Same.new t)).l0
  have tlt : ∀ t, lenA Try.prog 56 lv (h ++ t) = some (.int .i64 (l.length : Nat)) := fun t => (m.same (Same.new t)).tl
  have l0 := m.l0
  have tl := m.tl
  simp [l0, tl, l0t, tlt, zeros, capO, -load_ptr]
  refine WpA.loop (fun z fr g => ∃ (n : Nat) (a : Value), z = l.length - n ∧ n ≤ l.length ∧ fr 14 = lv ∧ fr 15 = .int .i64 (l.length : Nat) ∧ fr 16 = .int .i64 (n : Nat) ∧ fr 3 = a ∧ Same h g ∧ BAcc h.length g a ((l.take n).flatMap stB))
    (k := l.length) ⟨0, _, by simp, by omega, by simp, by simp, by simp, rfl, Same.new _, by
      simp
      exact ⟨by simp, .inr (.inl ⟨h.length, rfl, rfl, Nat.le_refl _, by simp⟩)⟩⟩ ?_
  clear l0 tl
  rintro z fr g ⟨n, a, rfl, hn, f14, f15, f16, f3, sm, A⟩
  apply Run.ok
  by_cases d : n < l.length
  · have d' : (n : Int) < l.length := by omega
    have w1 : IntKind.i64.wrap ((n : Int) + 1) = (n : Int) + 1 := wrap_i64 (by omega) (by omega)
    have M := m.same sm
    have ia := M.ia d .i64
    have ag := M.ag d
    have htk : l.take (n + 1) = l.take n ++ [l.getD n St.no] := by rw [List.take_add_one, List.getElem?_eq_getElem d, getD_at l St.no d]; rfl
    have hx : ValOk (l.getD n St.no) := by rw [← getD_at l St.no d]; exact hv _ (List.getElem_mem d)
    have hlen := stsB_len (l.take n) fun x hx => hv x (List.mem_of_mem_take hx)
    rw [List.length_take, Nat.min_eq_left hn] at hlen
    generalize l.getD n St.no = x at ag htk hx
    obtain ⟨v0, v1, v2, v3, v4⟩ := hx
    have ws : IntKind.i64.wrap (x.s : Int) = (x.s : Int) := wrap_i64 (by omega) (by omega)
    rw [stA_cells] at ag
    simp [f14, f15, f16, d', ia, ag, cellsOf, spl, -load_ptr]
    have sA : Same g (g ++ [.cells x.cells false none]) := Same.new _
    have hsA : (g ++ [Blk.cells x.cells false none])[g.length]? = some (.cells x.cells false none) := by simp
    rw [stA_cells] at sA hsA
    generalize g ++ [Blk.cells [.int .u8 (x.s : Nat), .int .i64 x.tried, .int .i64 x.badge, .int .i64 x.since, .int .i64 x.code, .bool x.played] false none] = gA at sA hsA ⊢
    have k0 : loadA Try.prog 5 (.pointer (some ⟨g.length, 0, none⟩)) gA = some (.int .u8 (x.s : Nat)) := by rw [load_at hsA (by simp)]; rfl
    have k1 : loadA Try.prog 3 (.pointer (some ⟨g.length, 1, none⟩)) gA = some (.int .i64 x.tried) := by rw [load_at hsA (by simp)]; rfl
    have k2 : loadA Try.prog 3 (.pointer (some ⟨g.length, 2, none⟩)) gA = some (.int .i64 x.badge) := by rw [load_at hsA (by simp)]; rfl
    have k3 : loadA Try.prog 3 (.pointer (some ⟨g.length, 3, none⟩)) gA = some (.int .i64 x.since) := by rw [load_at hsA (by simp)]; rfl
    have k4 : loadA Try.prog 3 (.pointer (some ⟨g.length, 4, none⟩)) gA = some (.int .i64 x.code) := by rw [load_at hsA (by simp)]; rfl
    have k5 : ∀ g', Same gA g' → loadA Try.prog 4 (.pointer (some ⟨g.length, 5, none⟩)) g' = some (.bool x.played) := fun g' s => by rw [load_at (s.at hsA) (by simp)]; rfl
    have smA := sm.trans sA
    have hbu : ∀ a b c d e : Int, buildA Try.prog 129 [(0, .int .i64 a), (1, .int .i64 b), (2, .int .i64 c), (3, .int .i64 d), (4, .int .i64 e)] = some (.agg #[.int .i64 a, .int .i64 b, .int .i64 c, .int .i64 d, .int .i64 e]) := fun a b c d e => by simp [buildA, fillA, cellsOf, spl]
    simp [k0, k1, k2, k3, k4, ws, hbu, -load_ptr]
    refine WpA.loop (fun z fr g' => ∃ (q : Nat) (a' : Value), z = 5 - q ∧ q ≤ 5 ∧ fr 14 = lv ∧ fr 15 = .int .i64 (l.length : Nat) ∧ fr 16 = .int .i64 (n : Nat) ∧ fr 3 = a' ∧ fr 5 = .pointer (some ⟨g.length, 0, none⟩) ∧ fr 31 = .agg #[.int .i64 (x.s : Nat), .int .i64 x.tried, .int .i64 x.badge, .int .i64 x.since, .int .i64 x.code] ∧ fr 32 = .int .i64 (q : Nat) ∧ Same gA g' ∧ BAcc h.length g' a' ((l.take n).flatMap stB ++ ((vals x).take q).flatMap fun v => enc v.toNat))
      (k := 5) ⟨0, a, by simp, by omega, by simp [f14], by simp [f15], by simp [f16], by simp [f3], by simp, by simp, by simp, Same.refl, by simpa using A.same sA⟩ ?_
    clear f14 f15 f16 f3
    rintro z fr g2 ⟨q, a', rfl, hq, f14, f15, f16, f3, f5, f31, f32, s2, A2⟩
    apply Run.ok
    by_cases e : q < 5
    · have e' : (q : Int) < 5 := by omega
      have w2 : IntKind.i64.wrap ((q : Int) + 1) = (q : Int) + 1 := wrap_i64 (by omega) (by omega)
      have hvq : ∃ vq : Int, (0 ≤ vq ∧ vq ≤ 2147483647) ∧ (vals x).take (q + 1) = (vals x).take q ++ [vq] ∧ indexA Try.prog 129 (.agg #[.int .i64 (x.s : Nat), .int .i64 x.tried, .int .i64 x.badge, .int .i64 x.since, .int .i64 x.code]) (.int .i64 (q : Int)) = some (.int .i64 vq) := by
        have : q = 0 ∨ q = 1 ∨ q = 2 ∨ q = 3 ∨ q = 4 := by omega
        rcases this with rfl | rfl | rfl | rfl | rfl
        · exact ⟨x.s, by omega, rfl, by simp [indexA, partA]⟩
        · exact ⟨x.tried, v1, rfl, by simp [indexA, partA]⟩
        · exact ⟨x.badge, v2, rfl, by simp [indexA, partA]⟩
        · exact ⟨x.since, v3, rfl, by simp [indexA, partA]⟩
        · exact ⟨x.code, v4, rfl, by simp [indexA, partA]⟩
      obtain ⟨vq, hvr, hvt, hvi⟩ := hvq
      have hvb := cntB_in hvr
      have hl5 : (((vals x).take q).flatMap fun v => enc v.toNat).length ≤ 50 := by
        have h0 := enc_le10 (n := x.s) (by omega)
        have h1 := enc_le10 (n := x.tried.toNat) (by omega)
        have h2 := enc_le10 (n := x.badge.toNat) (by omega)
        have h3 := enc_le10 (n := x.since.toNat) (by omega)
        have h4 := enc_le10 (n := x.code.toNat) (by omega)
        have : q = 0 ∨ q = 1 ∨ q = 2 ∨ q = 3 ∨ q = 4 := by omega
        rcases this with rfl | rfl | rfl | rfl | rfl <;> simp [vals] <;> omega
      simp [f3, f5, f14, f15, f16, f31, f32, e', hvi]
      refine after_call (count_lay_ev a' _ vq g2 A2.row (by rw [List.length_append]; omega)) ?_
      rintro r g3 ⟨A3, s3⟩
      rw [hvb] at A3
      have hg2 := (smA.trans s2).len
      simp [f5, f14, f15, f16, f31, f32, w2, -roundQ_normal, ↓rq]
      refine stop_intro ⟨5 - (q + 1), by omega, q + 1, r, rfl, by omega, by simp [f14], by simp [f15], by simp [f16], by simp, by simp [f5], by simp [f31], by simp, s2.trans s3, ?_⟩
      rw [hvt, List.flatMap_append, List.flatMap_singleton, ← List.append_assoc]
      exact BAcc.down hg2 A3
    · have e' : ¬ (q : Int) < 5 := by omega
      have hq5 : q = 5 := by omega
      subst hq5
      have hl5 : (((vals x).take 5).flatMap fun v => enc v.toNat).length ≤ 50 := by
        have h0 := enc_le10 (n := x.s) (by omega)
        have h1 := enc_le10 (n := x.tried.toNat) (by omega)
        have h2 := enc_le10 (n := x.badge.toNat) (by omega)
        have h3 := enc_le10 (n := x.since.toNat) (by omega)
        have h4 := enc_le10 (n := x.code.toNat) (by omega)
        simp [vals]; omega
      simp [f3, f5, f14, f15, f16, f31, f32, k5 _ s2, -load_ptr]
      refine after_call (flag_lay_ev a' _ x.played g2 A2.row (by rw [List.length_append]; omega)) ?_
      rintro r g3 ⟨A3, s3⟩
      have hg2 := (smA.trans s2).len
      simp [f14, f15, f16, w1, -roundQ_normal, ↓rq]
      refine stop_intro ⟨l.length - (n + 1), by omega, n + 1, r, rfl, by omega, by simp [f14], by simp [f15], by simp, by simp, (smA.trans s2).trans s3, ?_⟩
      have hst : stB x = ((vals x).take 5).flatMap (fun v => enc v.toNat) ++ [if x.played then 1 else 0] := by simp [stB, vals]
      rw [htk, List.flatMap_append, List.flatMap_singleton, hst, ← List.append_assoc]
      exact BAcc.down hg2 A3
  · have d' : ¬ (n : Int) < l.length := by omega
    rw [List.take_of_length_le (by omega)] at A
    simp [f3, f14, f15, f16, d']
    exact ⟨A, sm⟩
end
end Go.Proofs.Ytklhioaokogpdaa
