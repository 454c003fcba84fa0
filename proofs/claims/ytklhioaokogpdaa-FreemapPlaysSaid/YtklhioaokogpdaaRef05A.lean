/- The document's free map (bastionref05): what its calls answer; no condition. -/
import Derived.Test.YtklhioaokogpdaaFreeF
namespace Go.Proofs.Ytklhioaokogpdaa
open Go.Ab Go.Free
structure RM (h : Hp) (k b : Nat) (v : Value) (T : List Bool) : Prop where
  at_ : h[b]? = some (.cells [v] false none)
  above : k ≤ b
  bits : Wr k h 1 v T.length (T.map Value.bool)
  len : T.length ≤ 32768
  ne : 0 < T.length → rbl v ≠ b
  cl : T.length = 0 → v = .slice none 0 0 ∨ ∃ b c, v = .slice (some ⟨b, 0, none⟩) 0 c ∧ c < capO
def rown (b : Nat) (v : Value) (T : List Bool) (j : Nat) : Prop := j = b ∨ (j = rbl v ∧ 0 < T.length)
theorem RM.upd {S : Nat → Prop} {h h' : Hp} {k b : Nat} {v : Value} {T : List Bool} (m : RM h k b v T) (u : Upd S h h') (hn : ∀ j, rown b v T j → ¬ S j) : RM h' k b v T := by
  refine ⟨u.at m.at_ (hn b (.inl rfl)), m.above, ?_, m.len, m.ne, m.cl⟩
  rcases Nat.eq_zero_or_pos T.length with h0 | h0
  · have hx : T.map Value.bool = [] := List.eq_nil_of_length_eq_zero (by simp [h0])
    rw [hx, h0]
    rcases m.cl h0 with rfl | ⟨b', c, rfl, hc⟩
    · exact ⟨rfl, .inl ⟨rfl, rfl⟩⟩
    · exact ⟨rfl, .inr (.inl ⟨b', c, rfl, hc, rfl⟩)⟩
  · exact m.bits.upd u fun j hj => hn j (.inr ⟨inRow_rbl hj, h0⟩)
theorem RM.same {h h' : Hp} {k b : Nat} {v : Value} {T : List Bool} (m : RM h k b v T) (u : Same h h') : RM h' k b v T := m.upd u fun _ _ h => h
theorem RM.lo {h : Hp} {k b : Nat} {v : Value} {T : List Bool} (m : RM h k b v T) {j : Nat} (hj : rown b v T j) : k ≤ j := by
  rcases hj with rfl | ⟨rfl, h0⟩
  · exact m.above
  · exact (m.bits.above h0).1
theorem RM.hi {h : Hp} {k b : Nat} {v : Value} {T : List Bool} (m : RM h k b v T) {j : Nat} (hj : rown b v T j) : j < h.length := by
  rcases hj with rfl | ⟨rfl, h0⟩
  · exact hp_lt m.at_
  · exact (m.bits.above h0).2
theorem RM.l0 {h : Hp} {k b : Nat} {v : Value} {T : List Bool} (m : RM h k b v T) : loadA Try.prog 31 (.pointer (some ⟨b, 0, none⟩)) h = some v := by rw [load_at m.at_ (by simp)]; rfl
theorem RM.tl {h : Hp} {k b : Nat} {v : Value} {T : List Bool} (m : RM h k b v T) : lenA Try.prog 31 v h = some (.int .i64 (T.length : Nat)) := Row.len (e := 4) m.bits.row (by simp)
theorem RM.ia {h : Hp} {k b : Nat} {v : Value} {T : List Bool} (m : RM h k b v T) {j : Nat} (hj : j < T.length) : indexAddrA Try.prog 31 v (.int .i64 (j : Nat)) = some (.pointer (some ⟨rbl v, rof v + j, none⟩)) := Row.ia1 (e := 4) m.bits.row (by simp) (by simp) hj .i64
theorem RM.ld {h : Hp} {k b : Nat} {v : Value} {T : List Bool} (m : RM h k b v T) {j : Nat} (hj : j < T.length) : loadA Try.prog 4 (.pointer (some ⟨rbl v, rof v + j, none⟩)) h = some (.bool T[j]) := by
  have := Row.ld1 (P := Try.prog) (f := 4) m.bits.row (by simp) hj
  rw [List.getElem?_map, List.getElem?_eq_getElem hj] at this
  exact this
theorem RM.put {h : Hp} {k b : Nat} {v : Value} {T : List Bool} (m : RM h k b v T) {j : Nat} (hj : j < T.length) (x : Bool) :
    ∃ h', storeA Try.prog 4 (.pointer (some ⟨rbl v, rof v + j, none⟩)) (.bool x) h = some h' ∧ RM h' k b v (T.set j x) ∧ Upd (rown b v T) h h' := by
  obtain ⟨h', e1, e2, e3, e4⟩ := m.bits.store1 (P := Try.prog) (e := 4) (x := .bool x) (by simp) rfl hj
  have h0 : 0 < T.length := by omega
  refine ⟨h', e1, ⟨e3.at m.at_ (fun h => m.ne h0 h.symm), m.above, ?_, by simpa using m.len, by simpa using m.ne, by simpa using m.cl⟩, e3.mono fun j _ hj => .inr ⟨hj, h0⟩⟩
  rw [List.length_set, List.map_set]; exact e2
theorem rset_own {b : Nat} {v : Value} {T T' : List Bool} (hl : T'.length = T.length) : rown b v T' = rown b v T := by
  funext j; unfold rown; rw [hl]
theorem rnew_ev (n : Int) (h : Hp) : EvA Try.prog 40 [.int .i64 n] (fun r h' => Same h h' ∧ if 0 ≤ n ∧ n ≤ 32768 then ∃ b v, r = .tuple #[.pointer (some ⟨b, 0, none⟩), .int .i64 0] ∧ RM h' h.length b v (List.replicate n.toNat false) else r = .tuple #[.pointer none, .int .i64 1]) h := by
  refine EvA.body Try.func40 rfl (by kernel_rfl) (by simp) ?_
  apply Run.ok
  by_cases c1 : n < 0
  · have c : ¬ (0 ≤ n ∧ n ≤ 32768) := by omega
    simp [c1, c]
    exact Same.refl
  · by_cases c2 : 32768 < n
    · have c : ¬ (0 ≤ n ∧ n ≤ 32768) := by omega
      simp [c1, c2, c]
      exact Same.refl
    · have c : 0 ≤ n ∧ n ≤ 32768 := by omega
      obtain ⟨q, hq⟩ : ∃ q : Nat, n = (q : Int) := ⟨n.toNat, by omega⟩
      subst hq
      have hmk : makeSliceA Try.prog 31 (.int .i64 (q : Int)) (.int .i64 (q : Int)) h = some (.slice (some ⟨h.length, 0, none⟩) q q, h ++ [.cells (List.replicate q (.bool false)) false none]) := by
        rw [makeSlice_of (e := 4) (sz := 1) (by_ := 1) (zs := 1) (zero := [.bool false]) (by simp) (by simp) (by simp), if_pos ⟨by omega, by omega, by omega, rfl, by omega⟩]
        simp [zeros_rep]
      simp [c2, hmk]
      refine ⟨Same.new _, ?_⟩
      refine ⟨by omega, .slice (some ⟨h.length, 0, none⟩) q q, RM.mk (by simp) (by omega) ?_ (by simp; omega) (fun _ => ?_) (fun h0 => .inr ⟨h.length, q, ?_, ?_⟩)⟩
      · simp only [List.length_replicate, List.map_replicate]
        refine ⟨by simp, .inr (.inr ⟨h.length, q, [], none, rfl, Nat.le_refl _, ?_, .inl ⟨Nat.le_refl _, by simp [capO]; omega⟩⟩)⟩
        simp
      · show h.length ≠ h.length + 1
        omega
      · simp at h0; rw [h0]
      · simp [capO]; omega
theorem rtaken_ev {h : Hp} {k b : Nat} {v : Value} {T : List Bool} (i : Int) (m : RM h k b v T) :
    EvA Try.prog 45 [.pointer (some ⟨b, 0, none⟩), .int .i64 i] (fun r h' => h' = h ∧ r = .bool (tk T i)) h := by
  refine EvA.body Try.func45 rfl (by kernel_rfl) (by simp) ?_
  apply Run.ok
  have l0 := m.l0
  have tl := m.tl
  by_cases c1 : 0 ≤ i
  · by_cases c2 : i < T.length
    · obtain ⟨j, rfl⟩ : ∃ j : Nat, i = (j : Int) := ⟨i.toNat, by omega⟩
      have hj : j < T.length := by omega
      have ia := m.ia hj
      have ld := m.ld hj
      have e := tk_nat T j hj
      simp [l0, tl, hj, ia, ld, e, -load_ptr]
    · have e : tk T i = false := by simp [tk, List.getD_eq_getElem?_getD, List.getElem?_eq_none (show T.length ≤ i.toNat by omega)]
      simp [c1, c2, l0, tl, e, -load_ptr]
  · have e : tk T i = false := by simp [tk, c1]
    simp [c1, e]
theorem rclaim_ev {h : Hp} {k b : Nat} {v : Value} {T : List Bool} (i : Int) (m : RM h k b v T) :
    EvA Try.prog 42 [.pointer (some ⟨b, 0, none⟩), .int .i64 i] (fun r h' => r = .int .i64 (claimT T i).1 ∧ RM h' k b v (claimT T i).2 ∧ Upd (rown b v T) h h') h := by
  refine EvA.body Try.func42 rfl (by kernel_rfl) (by simp) ?_
  apply Run.ok
  have l0 := m.l0
  have tl := m.tl
  by_cases c : 0 ≤ i ∧ i < T.length
  · obtain ⟨j, rfl⟩ : ∃ j : Nat, i = (j : Int) := ⟨i.toNat, by omega⟩
    have hj : j < T.length := by omega
    have ia := m.ia hj
    have ld := m.ld hj
    have hg : T.getD j false = T[j] := by simp [List.getD_eq_getElem?_getD, hj]
    have hjn : ¬ T.length ≤ j := by omega
    have hcl : claimT T (j : Int) = if T[j] then (6, T) else (0, T.set j true) := by
      unfold claimT
      rw [if_pos c, Int.toNat_natCast, hg]
    rw [hcl]
    obtain ⟨h', e1, e2, e3⟩ := m.put hj true
    cases hT : T[j] with
    | true =>
      rw [hT] at ld
      simp [l0, tl, hj, hjn, ia, ld, -load_ptr]
      exact ⟨m, Upd.refl⟩
    | false =>
      rw [hT] at ld
      simp [l0, tl, hj, hjn, ia, ld, e1, -load_ptr, -store_ptr]
      exact ⟨e2, e3⟩
  · have hcl : claimT T i = (1, T) := by unfold claimT; rw [if_neg c]
    rw [hcl]
    by_cases c1 : i < 0
    · simp [c1]; exact ⟨m, Upd.refl⟩
    · have c2 : (T.length : Int) ≤ i := by omega
      simp [c1, c2, l0, tl, -load_ptr]; exact ⟨m, Upd.refl⟩
theorem rdrop_ev {h : Hp} {k b : Nat} {v : Value} {T : List Bool} (i : Int) (m : RM h k b v T) :
    EvA Try.prog 43 [.pointer (some ⟨b, 0, none⟩), .int .i64 i] (fun r h' => r = .int .i64 (dropT T i).1 ∧ RM h' k b v (dropT T i).2 ∧ Upd (rown b v T) h h') h := by
  refine EvA.body Try.func43 rfl (by kernel_rfl) (by simp) ?_
  apply Run.ok
  have l0 := m.l0
  have tl := m.tl
  by_cases c : 0 ≤ i ∧ i < T.length
  · obtain ⟨j, rfl⟩ : ∃ j : Nat, i = (j : Int) := ⟨i.toNat, by omega⟩
    have hj : j < T.length := by omega
    have ia := m.ia hj
    have ld := m.ld hj
    have hg : T.getD j false = T[j] := by simp [List.getD_eq_getElem?_getD, hj]
    have hjn : ¬ T.length ≤ j := by omega
    have hcl : dropT T (j : Int) = if T[j] then (0, T.set j false) else (5, T) := by
      unfold dropT
      rw [if_pos c, Int.toNat_natCast, hg]
    rw [hcl]
    obtain ⟨h', e1, e2, e3⟩ := m.put hj false
    cases hT : T[j] with
    | false =>
      rw [hT] at ld
      simp [l0, tl, hj, hjn, ia, ld, -load_ptr]
      exact ⟨m, Upd.refl⟩
    | true =>
      rw [hT] at ld
      simp [l0, tl, hj, hjn, ia, ld, e1, -load_ptr, -store_ptr]
      exact ⟨e2, e3⟩
  · have hcl : dropT T i = (1, T) := by unfold dropT; rw [if_neg c]
    rw [hcl]
    by_cases c1 : i < 0
    · simp [c1]; exact ⟨m, Upd.refl⟩
    · have c2 : (T.length : Int) ≤ i := by omega
      simp [c1, c2, l0, tl, -load_ptr]; exact ⟨m, Upd.refl⟩
theorem first_at {T : List Bool} {i : Nat} (hi : i < T.length) (hT : T[i] = false) (hb : ∀ j, j < i → ∀ hj : j < T.length, T[j] = true) : first T = i := by
  rcases Nat.lt_trichotomy (first T) i with h | h | h
  · have := first_false T (by omega)
    rw [hb _ h (by omega)] at this; cases this
  · exact h
  · have := first_before T i h hi
    rw [hT] at this; cases this
theorem rtake_ev {h : Hp} {k b : Nat} {v : Value} {T : List Bool} (m : RM h k b v T) :
    EvA Try.prog 41 [.pointer (some ⟨b, 0, none⟩)] (fun r h' => r = .tuple #[.int .i64 (takeT T).1, .int .i64 (takeT T).2.1] ∧ RM h' k b v (takeT T).2.2 ∧ Upd (rown b v T) h h') h := by
  refine EvA.body Try.func41 rfl (by kernel_rfl) (by simp) ?_
  apply Run.ok
  have l0 := m.l0
  have tl := m.tl
  have hlen := m.len
  simp
  refine WpA.loop (fun q fr g => ∃ i, q = T.length - i ∧ i ≤ T.length ∧ fr 0 = .pointer (some ⟨b, 0, none⟩) ∧ fr 4 = .int .i64 (i : Nat) ∧ g = h ∧ ∀ j, j < i → ∀ hj : j < T.length, T[j] = true)
    (k := T.length) ⟨0, by simp, by omega, by simp, by simp, rfl, fun j hj => by omega⟩ ?_
  rintro q fr g ⟨i, rfl, hi, f0, f4, rfl, hb⟩
  apply Run.ok
  by_cases c : i < T.length
  · have c' : (i : Int) < T.length := by omega
    have w1 : IntKind.i64.wrap ((i : Int) + 1) = (i : Int) + 1 := wrap_i64 (by omega) (by omega)
    have ia := m.ia c
    have ld := m.ld c
    obtain ⟨h', e1, e2, e3⟩ := m.put c true
    cases hT : T[i] with
    | true =>
      rw [hT] at ld
      simp [f0, f4, l0, tl, c', ia, ld, w1, -load_ptr, -roundQ_normal, ↓rq]
      refine stop_intro ⟨T.length - (i + 1), by omega, i + 1, rfl, by omega, by simp [f0], by simp, rfl, fun j hj hj' => ?_⟩
      rcases Nat.lt_or_ge j i with h1 | h1
      · exact hb j h1 hj'
      · have : j = i := by omega
        subst this; exact hT
    | false =>
      rw [hT] at ld
      have hf := first_at c hT hb
      have hk : takeT T = ((i : Int), 0, T.set i true) := by unfold takeT; rw [hf, if_pos c]
      rw [hk]
      simp [f0, f4, l0, tl, c', ia, ld, e1, -load_ptr, -store_ptr]
      exact ⟨e2, e3⟩
  · have c' : ¬ (i : Int) < T.length := by omega
    have hf : ¬ first T < T.length := fun hf => by
      have := first_false T hf
      rw [hb _ (by omega) hf] at this; cases this
    have hk : takeT T = (0, 3, T) := by unfold takeT; rw [if_neg hf]
    rw [hk]
    simp [f0, f4, l0, tl, c', -load_ptr]
    exact ⟨m, Upd.refl⟩
end Go.Proofs.Ytklhioaokogpdaa
