/- freemap's calls: what they answer; no condition. -/
import Derived.Test.YtklhioaokogpdaaPFree
import Derived.Test.YtklhioaokogpdaaLay
import Derived.Test.YtklhioaokogpdaaAb32
namespace Go.Proofs.Ytklhioaokogpdaa
open Go.Ab Go.Free
/-- a map lies there: its own blocks are b and its bits' -/
structure FM (h : Hp) (k b : Nat) (v : Value) (T : List Bool) : Prop where
  at_ : h[b]? = some (.cells [.int .i64 (T.length : Nat), .int .i64 (cnt T : Nat), v] false none)
  above : k ≤ b
  bits : Wr k h 1 v (pk T).length ((pk T).map byteV)
  len : T.length ≤ 32768
  ne : 0 < (pk T).length → rbl v ≠ b
  cl : (pk T).length = 0 → v = .slice none 0 0 ∨ ∃ b c, v = .slice (some ⟨b, 0, none⟩) 0 c ∧ c < capO
/-- the map's own blocks -/
def own (b : Nat) (v : Value) (T : List Bool) (j : Nat) : Prop := j = b ∨ (j = rbl v ∧ 0 < (pk T).length)
theorem FM.upd {S : Nat → Prop} {h h' : Hp} {k b : Nat} {v : Value} {T : List Bool} (m : FM h k b v T) (u : Upd S h h') (hn : ∀ j, own b v T j → ¬ S j) : FM h' k b v T := by
  refine ⟨u.at m.at_ (hn b (.inl rfl)), m.above, ?_, m.len, m.ne, m.cl⟩
  rcases Nat.eq_zero_or_pos (pk T).length with h0 | h0
  · have hx : (pk T).map byteV = [] := List.eq_nil_of_length_eq_zero (by simp [h0])
    rw [hx, h0]
    rcases m.cl h0 with rfl | ⟨b', c, rfl, hc⟩
    · exact ⟨rfl, .inl ⟨rfl, rfl⟩⟩
    · exact ⟨rfl, .inr (.inl ⟨b', c, rfl, hc, rfl⟩)⟩
  · exact m.bits.upd u fun j hj => hn j (.inr ⟨inRow_rbl hj, h0⟩)
theorem FM.l0 {h : Hp} {k b : Nat} {v : Value} {T : List Bool} (m : FM h k b v T) : loadA Try.prog 3 (.pointer (some ⟨b, 0, none⟩)) h = some (.int .i64 (T.length : Nat)) := by rw [load_at m.at_ (by simp)]; rfl
theorem FM.l1 {h : Hp} {k b : Nat} {v : Value} {T : List Bool} (m : FM h k b v T) : loadA Try.prog 3 (.pointer (some ⟨b, 1, none⟩)) h = some (.int .i64 (cnt T : Nat)) := by rw [load_at m.at_ (by simp)]; rfl
theorem FM.l2 {h : Hp} {k b : Nat} {v : Value} {T : List Bool} (m : FM h k b v T) : loadA Try.prog 22 (.pointer (some ⟨b, 2, none⟩)) h = some v := by rw [load_at m.at_ (by simp)]; rfl
theorem there_ev {h : Hp} {k b : Nat} {v : Value} {T : List Bool} (i : Int) (m : FM h k b v T) :
    EvA Try.prog 70 [.pointer (some ⟨b, 0, none⟩), .int .i64 i] (fun r h' => h' = h ∧ r = .int .i64 (if 0 ≤ i ∧ i < T.length then 0 else 1)) h := by
  refine EvA.body Try.func70 rfl (by kernel_rfl) (by simp) ?_
  apply Run.ok
  have hb := m.at_
  by_cases c1 : i < 0
  · have c2 : ¬ (0 ≤ i ∧ i < T.length) := by omega
    simp [c1, c2]
  · by_cases c2 : (T.length : Int) ≤ i
    · have c3 : ¬ (0 ≤ i ∧ i < T.length) := by omega
      simp [c1, hb, c2, c3]
    · have c3 : 0 ≤ i ∧ i < T.length := by omega
      simp [c1, hb, c2, c3]
theorem flen_ev {h : Hp} {k b : Nat} {v : Value} {T : List Bool} (m : FM h k b v T) :
    EvA Try.prog 15 [.pointer (some ⟨b, 0, none⟩)] (fun r h' => h' = h ∧ r = .int .i64 (T.length : Nat)) h := by
  refine EvA.body Try.func15 rfl (by kernel_rfl) (by simp) ?_
  apply Run.ok
  have hb := m.at_
  simp [hb]
theorem free_ev {h : Hp} {k b : Nat} {v : Value} {T : List Bool} (m : FM h k b v T) :
    EvA Try.prog 16 [.pointer (some ⟨b, 0, none⟩)] (fun r h' => h' = h ∧ r = .int .i64 ((T.length : Int) - cnt T)) h := by
  refine EvA.body Try.func16 rfl (by kernel_rfl) (by simp) ?_
  apply Run.ok
  have hb := m.at_
  have hl := m.len
  have hc := cnt_le T
  have w : IntKind.i64.wrap ((T.length : Int) - cnt T) = (T.length : Int) - cnt T := wrap_i64 (by omega) (by omega)
  simp
  refine WpA.drawnA [0, 1, 2, 3, 4, 5, 6, 7, 8, 9] [] (by kernel_rfl) (by decide +kernel) (by decide +kernel) ?_
  simp [hb, w]
/-- is it taken? -/
def tk (T : List Bool) (i : Int) : Bool := decide (0 ≤ i) && T.getD i.toNat false
/-- a bit's byte and its place there, as the code tells them -/
structure Bit (T : List Bool) (j a r : Nat) (p : Int) : Prop where
  hr : r < 8
  at_ : j = 8 * a + r
  lt : j < T.length
  ha : a < (pk T).length
  wq : IntKind.i64.wrap ((j : Int) / 8) = (a : Nat)
  wr : (j : Int).tmod 8 = (r : Nat)
  wp : IntKind.u8.wrap (2 ^ (min r 8)) = p
  hp : p = ((2 ^ r : Nat) : Int)
theorem Bit.of (T : List Bool) (j : Nat) (hj : j < T.length) (hl : T.length ≤ 32768) : ∃ a r p, Bit T j a r p := by
  refine ⟨j / 8, j % 8, _, by omega, by omega, hj, by rw [pk_length]; omega, ?_, by rw [Int.tmod_eq_emod_of_nonneg (by omega)]; omega, ?_, rfl⟩
  · rw [wrap_i64] <;> omega
  · rw [Nat.min_eq_left (by omega), wrap_u8_mod]
    have hk : j % 8 < 8 := by omega
    generalize j % 8 = k at hk
    rcases lt8 hk with rfl | rfl | rfl | rfl | rfl | rfl | rfl | rfl <;> rfl
theorem Bit.bt {T : List Bool} {j a r : Nat} {p : Int} (b : Bit T j a r p) : bt T a r = T[j]'b.lt := by
  have := bt_of T j b.lt
  have h1 := b.at_
  have h2 := b.hr
  rwa [show j / 8 = a by omega, show j % 8 = r by omega] at this
theorem Bit.and_ne {T : List Bool} {j a r : Nat} {p : Int} (b : Bit T j a r p) (t : TypeId) (x y : Operand) : ∃ q : Int, binA Try.prog .and t x y (.int .u8 (byteN T a : Nat)) (.int .u8 p) = some (.int .u8 q) ∧ (q != 0) = T[j]'b.lt := by
  have h1 := and_bit ⟨byteN T a, byteN_lt T _⟩ ⟨r, b.hr⟩
  simp only at h1
  rw [byteN_bit T a r b.hr, b.bt] at h1
  refine ⟨_, (congrArg (fun z => binA Try.prog .and t x y (.int .u8 (byteN T a : Nat)) (.int .u8 z)) b.hp).trans (bin_and _ _ _ _ _ _), ?_⟩
  rw [wrap_u8_mod, bits_u8]
  have hlt : ((BitVec.ofInt 8 (byteN T a : Nat)) &&& (BitVec.ofInt 8 ((2 ^ r : Nat) : Int))).toNat < 256 := BitVec.isLt _
  generalize ((BitVec.ofInt 8 (byteN T a : Nat)) &&& (BitVec.ofInt 8 ((2 ^ r : Nat) : Int))).toNat = q at h1 hlt
  rw [show ((q : Int) % 256) = (q : Int) by omega]
  cases hT : T[j]'b.lt with
  | true => rw [hT] at h1; simp at h1 ⊢; omega
  | false => rw [hT] at h1; simp at h1 ⊢; omega
theorem Bit.row {T : List Bool} {j a r : Nat} {p : Int} (b : Bit T j a r p) {h : Hp} {k b' : Nat} {v : Value} (m : FM h k b' v T) :
    indexAddrA Try.prog 22 v (.int .i64 (a : Nat)) = some (.pointer (some ⟨rbl v, rof v + a, none⟩)) ∧ loadA Try.prog 5 (.pointer (some ⟨rbl v, rof v + a, none⟩)) h = some (.int .u8 (byteN T a : Nat)) := by
  have hrow : Row h 1 v (pk T).length ((pk T).map byteV) := m.bits.row
  refine ⟨Row.ia1 (e := 5) hrow (by simp) (by simp) b.ha .i64, ?_⟩
  have ld := Row.ld1 (P := Try.prog) (f := 5) hrow (by simp) b.ha
  rw [List.getElem?_map, List.getElem?_eq_getElem b.ha] at ld
  simpa only [Option.map_some, byteV, pk_nat] using ld
theorem taken_ev {h : Hp} {k b : Nat} {v : Value} {T : List Bool} (i : Int) (m : FM h k b v T) :
    EvA Try.prog 27 [.pointer (some ⟨b, 0, none⟩), .int .i64 i] (fun r h' => h' = h ∧ r = .bool (tk T i)) h := by
  refine EvA.body Try.func27 rfl (by kernel_rfl) (by simp) ?_
  apply Run.ok
  have hb := m.at_
  have hl := m.len
  simp
  refine WpA.drawnA [0, 1, 2, 3, 4, 5, 6, 7, 8, 9, 10, 11, 12, 13, 14, 15, 16, 17, 18, 19, 20, 21, 22, 23] [[], [], [], [], [], [0, 1, 2, 4]] (by kernel_rfl) (by decide +kernel) (by decide +kernel) ?_
  by_cases c0 : 0 ≤ i
  · by_cases c1 : i < T.length
    · obtain ⟨j, rfl⟩ : ∃ j : Nat, i = (j : Int) := ⟨i.toNat, by omega⟩
      have hj : j < T.length := by omega
      obtain ⟨a, r, p, bb⟩ := Bit.of T j hj hl
      obtain ⟨ia, ld⟩ := bb.row m
      simp [c0]
      refine after_call (flen_ev m) ?_
      rintro r h' ⟨rfl, rfl⟩
      have tkj : tk T (j : Int) = T[j] := by simp [tk, List.getD_eq_getElem?_getD, hj]
      obtain ⟨q, e1, e2⟩ := bb.and_ne 5 (.tmp 21) (.tmp 24)
      simp [c1, m.l2, bb.wq, bb.wr, bb.wp, ia, ld, e1, e2, tkj, -load_ptr]
    · have : tk T i = false := by simp [tk, List.getD_eq_getElem?_getD, List.getElem?_eq_none (show T.length ≤ i.toNat by omega)]
      simp [c0]
      refine after_call (flen_ev m) ?_
      rintro r h' ⟨rfl, rfl⟩
      simp [c1, this]
  · have : tk T i = false := by simp [tk, c0]
    simp [c0, this]
end Go.Proofs.Ytklhioaokogpdaa
