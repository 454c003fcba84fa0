/- freemap's calls that change a map: what they answer; no condition. -/
import Derived.Test.YtklhioaokogpdaaFree
namespace Go.Proofs.Ytklhioaokogpdaa
open Go.Ab Go.Free
/-- a bit is set, or struck -/
theorem FM.put {h h1 : Hp} {k b : Nat} {v : Value} {T : List Bool} {j a r : Nat} {p : Int} (m : FM h k b v T) (bb : Bit T j a r p) (x : Bool)
    (w1 : Wr k h1 1 v (pk T).length (((pk T).map byteV).set a (.int .u8 (byteN (T.set j x) a : Nat)))) (u1 : Upd (· = rbl v) h h1) :
    ∃ h2, storeA Try.prog 3 (.pointer (some ⟨b, 1, none⟩)) (.int .i64 (cnt (T.set j x) : Nat)) h1 = some h2 ∧ FM h2 k b v (T.set j x) ∧ Upd (own b v T) h h2 := by
  have hpos : 0 < (pk T).length := by have := bb.ha; omega
  have hne := m.ne hpos
  have hB1 : h1[b]? = some (.cells [.int .i64 (T.length : Nat), .int .i64 (cnt T : Nat), v] false none) := u1.at m.at_ (fun h => hne h.symm)
  have hlt := hp_lt hB1
  refine ⟨h1.set b (.cells [.int .i64 (T.length : Nat), .int .i64 (cnt (T.set j x) : Nat), v] false none), ?_, ⟨?_, m.above, ?_, by simpa using m.len, by simpa using m.ne, by simpa using m.cl⟩, ?_⟩
  · simp [storeA, hB1, cellsOf, spl]
  · simp [hlt]
  · have e : (pk (T.set j x)).map byteV = ((pk T).map byteV).set a (.int .u8 (byteN (T.set j x) a : Nat)) := by
      have h8 : j / 8 = a := by have := bb.at_; have := bb.hr; omega
      rw [pk_set T j x bb.lt, List.map_set, h8]
      congr 1
      have := byteN_lt (T.set j x) a
      simp [byteV]; omega
    rw [e, show (pk (T.set j x)).length = (pk T).length by simp]
    exact w1.upd (Upd.set (S := (· = b)) rfl _) fun j hj he => by rw [inRow_rbl hj] at he; exact hne he
  · exact Upd.trans (u1.mono (S' := own b v T) fun q _ hq => .inr ⟨hq, hpos⟩) (Upd.set (S := (· = b)) rfl _) fun q _ hq => .inl hq
theorem Bit.or_eq {T : List Bool} {j a r : Nat} {p : Int} (b : Bit T j a r p) (hT : T[j]'b.lt = false) (t : TypeId) (x y : Operand) : binA Try.prog .or t x y (.int .u8 (byteN T a : Nat)) (.int .u8 p) = some (.int .u8 (byteN (T.set j true) a : Nat)) := by
  have hb0 : Go.Free.bt T a r = false := by rw [b.bt, hT]
  have h1 := or_bit ⟨byteN T a, byteN_lt T _⟩ ⟨r, b.hr⟩ (by simp only; rw [byteN_bit T a r b.hr, hb0]; rfl)
  simp only at h1
  have h2 := byteN_set T a r true b.hr (by have := b.lt; rw [b.at_] at this; exact this)
  rw [← b.at_, hb0] at h2
  simp at h2
  refine (congrArg (fun z => binA Try.prog .or t x y (.int .u8 (byteN T a : Nat)) (.int .u8 z)) b.hp).trans ((bin_or _ _ _ _ _ _).trans ?_)
  rw [bits_u8, h1, h2, wrap_u8 (by omega) (by have := byteN_lt (T.set j true) a; omega)]
theorem Bit.andNot_eq {T : List Bool} {j a r : Nat} {p : Int} (b : Bit T j a r p) (hT : T[j]'b.lt = true) (t : TypeId) (x y : Operand) : binA Try.prog .andNot t x y (.int .u8 (byteN T a : Nat)) (.int .u8 p) = some (.int .u8 (byteN (T.set j false) a : Nat)) := by
  have hb0 : Go.Free.bt T a r = true := by rw [b.bt, hT]
  have h1 := andNot_bit ⟨byteN T a, byteN_lt T _⟩ ⟨r, b.hr⟩ (by simp only; rw [byteN_bit T a r b.hr, hb0]; rfl)
  simp only at h1
  have h2 := byteN_set T a r false b.hr (by have := b.lt; rw [b.at_] at this; exact this)
  rw [← b.at_, hb0] at h2
  simp at h2
  refine (congrArg (fun z => binA Try.prog .andNot t x y (.int .u8 (byteN T a : Nat)) (.int .u8 z)) b.hp).trans ((bin_andNot _ _ _ _ _ _).trans ?_)
  rw [bits_u8, h1, show byteN T a - 2 ^ r = byteN (T.set j false) a by omega, wrap_u8 (by omega) (by have := byteN_lt (T.set j false) a; omega)]
/-- Claim and Drop, as the document has them -/
def claimT (T : List Bool) (i : Int) : Int × List Bool := if 0 ≤ i ∧ i < T.length then (if T.getD i.toNat false then (6, T) else (0, T.set i.toNat true)) else (1, T)
def dropT (T : List Bool) (i : Int) : Int × List Bool := if 0 ≤ i ∧ i < T.length then (if T.getD i.toNat false then (0, T.set i.toNat false) else (5, T)) else (1, T)
theorem tk_nat (T : List Bool) (j : Nat) (hj : j < T.length) : tk T (j : Int) = T[j] := by simp [tk, List.getD_eq_getElem?_getD, hj]
theorem claim_ev {h : Hp} {k b : Nat} {v : Value} {T : List Bool} (i : Int) (m : FM h k b v T) :
    EvA Try.prog 24 [.pointer (some ⟨b, 0, none⟩), .int .i64 i] (fun r h' => r = .int .i64 (claimT T i).1 ∧ FM h' k b v (claimT T i).2 ∧ Upd (own b v T) h h') h := by
  refine EvA.body Try.func24 rfl (by kernel_rfl) (by simp) ?_
  apply Run.ok
  have hl := m.len
  simp
  refine after_call (there_ev i m) ?_
  rintro r h' ⟨rfl, rfl⟩
  by_cases c : 0 ≤ i ∧ i < T.length
  · obtain ⟨j, rfl⟩ : ∃ j : Nat, i = (j : Int) := ⟨i.toNat, by omega⟩
    have hj : j < T.length := by omega
    obtain ⟨a, r, p, bb⟩ := Bit.of T j hj hl
    obtain ⟨ia, ld⟩ := bb.row m
    have hg : T.getD j false = T[j] := by simp [List.getD_eq_getElem?_getD, hj]
    simp [hj]
    refine after_call (taken_ev (j : Int) m) ?_
    rintro r1 h1 ⟨rfl, rfl⟩
    rw [tk_nat T j hj]
    cases hT : T[j] with
    | true =>
      have hc : claimT T (j : Int) = (6, T) := by simp [claimT, hj, hg, hT]
      simp [hc]
      exact ⟨m, Upd.refl⟩
    | false =>
      have hc : claimT T (j : Int) = (0, T.set j true) := by simp [claimT, hj, hg, hT]
      have e1 := bb.or_eq hT 5 (.tmp 22) (.tmp 25)
      obtain ⟨h2, e2, w2, u2, n2⟩ := m.bits.store1 (P := Try.prog) (e := 5) (x := .int .u8 (byteN (T.set j true) a : Nat)) (by simp) rfl bb.ha
      obtain ⟨h3, e3, m3, u3⟩ := m.put bb true w2 u2
      have hpos : 0 < (pk T).length := by have := bb.ha; omega
      have hB2 := u2.at m.at_ (fun h => m.ne hpos h.symm)
      have l1 := load_at (P := Try.prog) (t := 3) (o := 1) hB2 (by simp)
      simp only [List.getElem?_cons_succ, List.getElem?_cons_zero] at l1
      have hcs := cnt_set_true T j hj hT
      have wc : IntKind.i64.wrap ((cnt T : Int) + 1) = (cnt (T.set j true) : Nat) := by
        have := cnt_le (T.set j true); simp at this
        rw [hcs, wrap_i64 (by omega) (by omega)]; simp
      simp
      refine WpA.drawnA [0, 1, 2, 3, 4, 5, 6, 7, 8, 9, 10, 11, 12, 13] [[], [], [], [], [], [], [], [], [], [], [], [], [], [0, 1, 2, 3, 4, 5, 6, 7, 8, 9, 10, 11, 12]] (by kernel_rfl) (by decide +kernel) (by decide +kernel) ?_
      simp [m.l2, bb.wq, bb.wr, bb.wp, ia, ld, e1, e2, l1, wc, e3, hc, -load_ptr, -store_ptr]
      exact ⟨m3, u3⟩
  · have hc : claimT T i = (1, T) := by simp only [claimT, if_neg c]
    simp [c, hc]
    exact ⟨m, Upd.refl⟩
theorem drop_ev {h : Hp} {k b : Nat} {v : Value} {T : List Bool} (i : Int) (m : FM h k b v T) :
    EvA Try.prog 39 [.pointer (some ⟨b, 0, none⟩), .int .i64 i] (fun r h' => r = .int .i64 (dropT T i).1 ∧ FM h' k b v (dropT T i).2 ∧ Upd (own b v T) h h') h := by
  refine EvA.body Try.func39 rfl (by kernel_rfl) (by simp) ?_
  apply Run.ok
  have hl := m.len
  simp
  refine after_call (there_ev i m) ?_
  rintro r h' ⟨rfl, rfl⟩
  by_cases c : 0 ≤ i ∧ i < T.length
  · obtain ⟨j, rfl⟩ : ∃ j : Nat, i = (j : Int) := ⟨i.toNat, by omega⟩
    have hj : j < T.length := by omega
    obtain ⟨a, r, p, bb⟩ := Bit.of T j hj hl
    obtain ⟨ia, ld⟩ := bb.row m
    have hg : T.getD j false = T[j] := by simp [List.getD_eq_getElem?_getD, hj]
    simp [hj]
    refine after_call (taken_ev (j : Int) m) ?_
    rintro r1 h1 ⟨rfl, rfl⟩
    rw [tk_nat T j hj]
    cases hT : T[j] with
    | false =>
      have hc : dropT T (j : Int) = (5, T) := by simp [dropT, hj, hg, hT]
      simp [hc]
      exact ⟨m, Upd.refl⟩
    | true =>
      have hc : dropT T (j : Int) = (0, T.set j false) := by simp [dropT, hj, hg, hT]
      have e1 := bb.andNot_eq hT 5 (.tmp 23) (.tmp 26)
      obtain ⟨h2, e2, w2, u2, n2⟩ := m.bits.store1 (P := Try.prog) (e := 5) (x := .int .u8 (byteN (T.set j false) a : Nat)) (by simp) rfl bb.ha
      obtain ⟨h3, e3, m3, u3⟩ := m.put bb false w2 u2
      have hpos : 0 < (pk T).length := by have := bb.ha; omega
      have hB2 := u2.at m.at_ (fun h => m.ne hpos h.symm)
      have l1 := load_at (P := Try.prog) (t := 3) (o := 1) hB2 (by simp)
      simp only [List.getElem?_cons_succ, List.getElem?_cons_zero] at l1
      have hcs := cnt_set_false T j hj hT
      have wc : IntKind.i64.wrap ((cnt T : Int) - 1) = (cnt (T.set j false) : Nat) := by
        have := cnt_le T
        rw [wrap_i64 (by omega) (by omega)]; omega
      simp
      refine WpA.drawnA [0, 1, 2, 3, 4, 5, 6, 7, 8, 9, 10, 11, 12, 13] [[], [], [], [], [], [], [], [], [], [], [], [], [], [0, 1, 2, 3, 4, 5, 6, 7, 8, 9, 10, 11, 12]] (by kernel_rfl) (by decide +kernel) (by decide +kernel) ?_
      simp [m.l2, bb.wq, bb.wr, bb.wp, ia, ld, e1, e2, l1, wc, e3, hc, -load_ptr, -store_ptr]
      exact ⟨m3, u3⟩
  · have hc : dropT T i = (1, T) := by simp only [dropT, if_neg c]
    simp [c, hc]
    exact ⟨m, Upd.refl⟩
end Go.Proofs.Ytklhioaokogpdaa
