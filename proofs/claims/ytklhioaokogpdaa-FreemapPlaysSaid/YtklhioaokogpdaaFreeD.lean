/- freemap's New, Copy, Bytes, List: what they answer; no condition. -/
import Derived.Test.YtklhioaokogpdaaFreeC
namespace Go.Proofs.Ytklhioaokogpdaa
open Go.Ab Go.Free
theorem size_ev (n : Int) (hn : 0 ≤ n ∧ n ≤ 32768) (h : Hp) : EvA Try.prog 66 [.int .i64 n] (fun r h' => h' = h ∧ r = .int .i64 ((n + 7) / 8)) h := by
  refine EvA.body Try.func66 rfl (by kernel_rfl) (by simp) ?_
  apply Run.ok
  have w1 : IntKind.i64.wrap (n + 7) = n + 7 := wrap_i64 (by omega) (by omega)
  have w2 : IntKind.i64.wrap ((n + 7).tdiv 8) = (n + 7) / 8 := by rw [Int.tdiv_eq_ediv_of_nonneg (by omega), wrap_i64 (by omega) (by omega)]
  simp [w1, w2]
theorem byteN_rep (n j : Nat) : byteN (List.replicate n false) j = 0 := by
  have : ∀ k, bt (List.replicate n false) j k = false := fun k => by
    unfold bt; rw [List.getD_eq_getElem?_getD, List.getElem?_replicate]; split <;> rfl
  simp [byteN, this, sum8]
theorem pk_rep (n : Nat) : (pk (List.replicate n false)).map byteV = List.replicate ((n + 7) / 8) (Value.int .u8 0) := by
  apply List.ext_getElem?
  intro j
  by_cases hj : j < (n + 7) / 8
  · have h1 : j < (pk (List.replicate n false)).length := by simpa using hj
    rw [List.getElem?_map, List.getElem?_eq_getElem h1, pk_get, byteN_rep, List.getElem?_replicate, if_pos hj]; rfl
  · rw [List.getElem?_eq_none (by simpa using hj), List.getElem?_eq_none (by simpa using hj)]
theorem new_ev (n : Int) (h : Hp) : EvA Try.prog 23 [.int .i64 n] (fun r h' => Same h h' ∧ if 0 ≤ n ∧ n ≤ 32768 then ∃ b v, r = .tuple #[.pointer (some ⟨b, 0, none⟩), .int .i64 0] ∧ FM h' h.length b v (List.replicate n.toNat false) else r = .tuple #[.pointer none, .int .i64 1]) h := by
  refine EvA.body Try.func23 rfl (by kernel_rfl) (by simp) ?_
  apply Run.ok
  by_cases c1 : n < 0
  · have c : ¬ (0 ≤ n ∧ n ≤ 32768) := by omega
    simp [c1, c]
    exact Same.refl
  · by_cases c2 : 32768 < n
    · have c : ¬ (0 ≤ n ∧ n ≤ 32768) := by omega
      simp [c1, c2, c]
      exact Same.refl
    · have c : 0 ≤ n ∧ n ≤ 32768 := by omega
      simp [c1, c2, c]
      refine after_call (size_ev n c h) ?_
      rintro r h' ⟨rfl, rfl⟩
      obtain ⟨q, hq⟩ : ∃ q : Nat, (n + 7) / 8 = (q : Int) := ⟨((n + 7) / 8).toNat, by omega⟩
      have hmk : makeSliceA Try.prog 22 (.int .i64 ((n + 7) / 8)) (.int .i64 ((n + 7) / 8)) h' = some (.slice (some ⟨h'.length, 0, none⟩) q q, h' ++ [.cells (List.replicate q (.int .u8 0)) false none]) := by
        rw [hq, makeSlice_of (e := 5) (sz := 1) (by_ := 1) (zs := 1) (zero := [.int .u8 0]) (by simp) (by simp) (by simp), if_pos ⟨by omega, by omega, by omega, rfl, by omega⟩]
        simp [zeros_rep]
      simp [hmk]
      refine ⟨Same.new _, ?_⟩
      have hlen : (List.replicate n.toNat false).length = n.toNat := List.length_replicate
      have hq2 : (pk (List.replicate n.toNat false)).length = q := by simp; omega
      refine ⟨c, .slice (some ⟨h'.length, 0, none⟩) q q, FM.mk ?_ ?_ ?_ ?_ (fun _ => ?_) (fun h0 => .inr ⟨h'.length, q, ?_, ?_⟩)⟩
      · simp [cnt, List.count_replicate]; omega
      · omega
      · rw [hq2, pk_rep]
        refine ⟨by simp; omega, .inr (.inr ⟨h'.length, q, [], none, rfl, Nat.le_refl _, ?_, .inl ⟨Nat.le_refl _, by simp [capO]; omega⟩⟩)⟩
        rw [show (n.toNat + 7) / 8 = q by omega]; simp
      · simp; omega
      · show h'.length ≠ h'.length + 1
        omega
      · rw [hq2] at h0; rw [h0]
      · simp [capO]; omega
theorem cloneB_ev {h : Hp} {v : Value} {l : List UInt8} (hv : Row h 1 v l.length (l.map byteV)) (hl : l.length ≤ 1000000000) :
    EvA Try.prog 71 [v] (fun r h' => Acc h.length h' 1 r l.length (l.map byteV) ∧ Same h h' ∧ (l.length = 0 → r = .slice none 0 0 ∨ ∃ b c, r = .slice (some ⟨b, 0, none⟩) 0 c ∧ c < capO)) h := by
  refine EvA.body Try.func71 rfl (by kernel_rfl) (by simp) ?_
  apply Run.ok
  rcases row_nil hv with ⟨rfl, hn⟩ | ⟨a, c, rfl⟩
  · have : l = [] := List.eq_nil_of_length_eq_zero hn
    subst this
    simp
    exact ⟨Acc.nil _, Same.refl⟩
  · by_cases h0 : l.length = 0
    · have : l = [] := List.eq_nil_of_length_eq_zero h0
      subst this
      have hz : srcA 1 (.slice (some a) 0 c) (h ++ [.cells [] false none]) = some (0, []) := (hv.same (Same.new _)).2.1
      have e1 : appendA Try.prog 22 22 (.slice (some ⟨h.length, 0, none⟩) 0 0) (.slice (some a) 0 c) (h ++ [.cells [] false none]) = some (.slice (some ⟨h.length, 0, none⟩) 0 0, h ++ [.cells [] false none]) := by
        simp [appendA, hz]
        rfl
      simp [zeros, capO, e1]
      exact ⟨⟨by simp, .inr (.inl ⟨h.length, rfl, rfl, Nat.le_refl _, by simp⟩)⟩, Same.new _, _, _, ⟨rfl, rfl⟩, by omega⟩
    · obtain ⟨v', h', e1, e2, e3, _⟩ := Acc.appendLit (P := Try.prog) (h := h ++ [.cells [] false none]) (z := 1) (k := h.length) (b := h.length) (t := 22) (tx := 22) (e := 5) (by_ := 1) (dx := .slice 5) (Nat.le_refl _) (by simp) (by simp) (by simp) (by simp) rfl (hv.same (Same.new _)).2.1 (by simp) (by omega) (by omega)
      simp [zeros, capO, e1]
      exact ⟨e2, Same.trans (Same.new _) e3, fun hh => absurd (by simp [hh]) h0⟩
theorem copy_ev {h : Hp} {k b : Nat} {v : Value} {T : List Bool} (m : FM h k b v T) :
    EvA Try.prog 25 [.pointer (some ⟨b, 0, none⟩)] (fun r h' => Same h h' ∧ ∃ b' v', r = .pointer (some ⟨b', 0, none⟩) ∧ FM h' h.length b' v' T) h := by
  refine EvA.body Try.func25 rfl (by kernel_rfl) (by simp) ?_
  apply Run.ok
  have hl := m.len
  have hpl := pk_length T
  have hone := (Row.one m.bits.row).2
  have hb := m.at_
  have la : loadA Try.prog 100 (.pointer (some ⟨b, 0, none⟩)) h = some (.agg #[.int .i64 (T.length : Nat), .int .i64 (cnt T : Nat), v]) := by
    simp only [loadA, hb]; simp
  simp [la, hone, spl, -load_ptr]
  have smG : Same h (h ++ [.cells [.int .i64 (T.length : Nat), .int .i64 (cnt T : Nat), v] false none]) := Same.new _
  have l2 := (m.upd smG (fun _ _ h => h)).l2
  simp [l2, -load_ptr]
  refine after_call (cloneB_ev (m.bits.row.same smG) (by omega)) ?_
  rintro r h' ⟨ha, sm, hcl⟩
  have hB : h'[h.length]? = some (.cells [.int .i64 (T.length : Nat), .int .i64 (cnt T : Nat), v] false none) := sm.at (by simp)
  have hlt := hp_lt hB
  have hr1 := (Row.one ha.row).1
  have hr2 := (Row.one ha.row).2
  simp [storeA, hB, hr1, hr2, spl]
  refine ⟨Upd.trans (smG.trans sm) (Upd.set (S := (· = h.length)) rfl _) fun j hj he => by omega, ?_⟩
  refine ⟨r, FM.mk (by simp [hlt]) (Nat.le_refl _) ?_ m.len (fun h0 => ?_) hcl⟩
  · exact ((Acc.down (by simp) ha).wr).upd (Upd.set (S := (· = h.length)) rfl _) fun j hj he => by
      have := (ha.above j hj).1
      simp at this; omega
  · have := (ha.above _ (ha.row.inRow h0)).1
    simp at this; omega
theorem bytes_ev {h : Hp} {k b : Nat} {v : Value} {T : List Bool} (m : FM h k b v T) :
    EvA Try.prog 21 [.pointer (some ⟨b, 0, none⟩)] (fun r h' => BAcc h.length h' r (cntB (T.length : Nat) ++ pk T) ∧ Same h h') h := by
  refine EvA.body Try.func21 rfl (by kernel_rfl) (by simp) ?_
  apply Run.ok
  have hl := m.len
  have hpl := pk_length T
  simp
  refine WpA.drawnA [0, 1, 2, 3, 5, 6, 7, 8, 4, 9, 10] [[], [], [], [], [0, 1, 2, 3], [], [], [], [], [0, 1, 2, 3, 4, 5, 6, 7, 8]] (by kernel_rfl) (by decide +kernel) (by decide +kernel) ?_
  simp [m.l0, m.l2, -load_ptr]
  refine after_call (count_lay_ev (.slice none 0 0) [] (T.length : Nat) h (Row.nil) (by simp)) ?_
  rintro r h' ⟨ha, sm⟩
  have m' := m.upd sm (fun _ _ h => h)
  have hcb : (cntB (T.length : Nat)).length ≤ 10 := by
    unfold cntB; split
    · simp
    · rw [enc_length]; exact grps_le _ (by omega)
  simp only [List.nil_append] at ha
  obtain ⟨v2, h2, e2, a2, s2⟩ := appB ha sm (m := pk T) (x := v) m'.bits.row.2.1 (by omega)
  have m2 := m.upd s2 (fun _ _ h => h)
  simp [m'.l0, m'.l2, m2.l0, m2.l2, e2, -load_ptr]
  exact ⟨a2, s2⟩
end Go.Proofs.Ytklhioaokogpdaa
