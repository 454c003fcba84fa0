/- bastionref01: what its writing side answers; no condition. -/
import Derived.Test.YtaahkamnpobofaaLay
namespace Go.Proofs.Ytaahkamnpobofaa
open Go.Ab

set_option maxRecDepth 10000 in
theorem behind_ev (v : Value) (l : List UInt8) (s : ByteArray) (h : Hp) (hb : Bytes h v l) (hl : l.length < 1099511627776) (hs : s.size < 1099511627776) :
    EvA Try.prog 96 [v, .string s] (fun r h' => BAcc h.length h' r (l ++ s.data.toList) ∧ Same h h') h := by
  have hsz : s.data.toList.length = s.size := by simp
  refine EvA.body Try.func96 rfl (by kernel_rfl) (by simp) ?_
  apply Run.ok
  simp
  refine WpA.loop (fun k fr h' => ∃ (i : Nat), k = l.length - i ∧ i ≤ l.length ∧ fr 0 = v ∧ fr 1 = .string s ∧ fr 6 = .int .i64 (i : Nat) ∧ BAcc h.length h' (fr 5) (l.take i) ∧ Same h h')
    (k := l.length) ⟨0, rfl, by omega, by simp, by simp, by simp, by simpa using BAcc.nil _, Same.refl⟩ ?_
  rintro k fr h2 ⟨i, rfl, hi, f0, f1, f6, a, sm⟩
  have hlen := Bytes.len (P := Try.prog) (t := 42) (e := 5) (hb.same sm) (by simp)
  apply Run.ok
  simp [f0, f1, f6, hlen]
  refine branch_cases (fun c => ?_) (fun c => ?_)
  · have hi2 : i < l.length := by simp at c; omega
    obtain ⟨p, o, e1, e2⟩ := Bytes.load (P := Try.prog) (t := 42) (e := 5) (k := .i64) (i := (i : Int)) (hb.same sm) (by simp) (by simp) (by simp) (by omega) (by omega)
    obtain ⟨v3, h3, e3, a3, sm3⟩ := pushB (l.getD i 0) (((l.getD i 0).toNat : Nat) : Int) rfl a sm (by simp; omega)
    have w := wrap_i64 (a := (i : Int) + 1) (by omega) (by omega)
    rw [Int.toNat_natCast] at e2
    generalize hx : l.getD i 0 = x at e2 e3 a3
    simp [f0, f1, f6, e1, e2, -load_ptr, zeros, capO, e3, w]
    refine ⟨l.length - (i + 1), by omega, i + 1, rfl, by omega, by omega, ?_, sm3⟩
    rw [List.take_add_one, List.getElem?_eq_getElem hi2]
    rw [List.getD_eq_getElem?_getD, List.getElem?_eq_getElem hi2] at hx
    simp at hx
    simpa [hx] using a3
  · have hi2 : i = l.length := by simp at c; omega
    subst hi2
    rw [List.take_length] at a
    simp [f0, f1, f6]
    clear hlen f6
    generalize hw : fr 5 = v5 at a
    refine WpA.loop (fun k fr h' => ∃ (i : Nat), k = s.size - i ∧ i ≤ s.size ∧ fr 1 = .string s ∧ fr 7 = .int .i64 (i : Nat) ∧ BAcc h.length h' (fr 5) (l ++ s.data.toList.take i) ∧ Same h h')
      (k := s.size) ⟨0, rfl, by omega, by simp [f1], by simp, by simpa [hw] using a, sm⟩ ?_
    rintro k fr h3 ⟨i, rfl, hi, f1, f7, a, sm⟩
    apply Run.ok
    simp [f1, f7]
    refine branch_cases (fun c => ?_) (fun c => ?_)
    · have hi2 : i < s.size := by simp at c; omega
      obtain ⟨v3, h3, e3, a3, sm3⟩ := pushB (bat s i) (((bat s i).toNat : Nat) : Int) rfl a sm (by simp; omega)
      have w := wrap_i64 (a := (i : Int) + 1) (by omega) (by omega)
      simp [f1, f7, ba_get s i hi2, zeros, capO, e3, w]
      refine ⟨s.size - (i + 1), by omega, i + 1, rfl, by omega, by omega, ?_, sm3⟩
      have hi3 : i < s.data.toList.length := by omega
      rw [List.take_add_one, List.getElem?_eq_getElem hi3]
      simp only [bat, List.getD_eq_getElem?_getD, List.getElem?_eq_getElem hi3, Option.getD_some] at a3
      simpa using a3
    · have hi2 : i = s.size := by simp at c; omega
      subst hi2
      rw [List.take_of_length_le (by omega)] at a
      simp
      exact ⟨a, sm⟩
theorem oneStr (h : Hp) (b : UInt8) (X : Int) (hX : X = (b.toNat : Nat)) :
    convA Try.prog 42 9 (.slice (some ⟨h.length, 0, none⟩) 1 1) (h ++ [.cells [.int .u8 X] false none]) = some (.string ⟨#[b]⟩, h ++ [.cells [.int .u8 X] false none]) := by
  subst hX
  have hb : Bytes (h ++ [.cells [.int .u8 (b.toNat : Nat)] false none]) (.slice (some ⟨h.length, 0, none⟩) 1 1) [b] := ⟨⟨_, _, rfl⟩, src_one b, by simp⟩
  exact Bytes.str (e := 5) hb (by simp) (by simp) (by simp)
theorem oneStr' {g : Hp} {p : Nat} (b : UInt8) (X : Int) (hX : X = (b.toNat : Nat)) (hB : g[p]? = some (.cells [.int .u8 X] false none)) :
    convA Try.prog 42 9 (.slice (some ⟨p, 0, none⟩) 1 1) g = some (.string ⟨#[b]⟩, g) := by
  subst hX
  have hb : Bytes g (.slice (some ⟨p, 0, none⟩) 1 1) [b] := ⟨⟨_, _, rfl⟩, by simp [srcA, hB, byteV], by simp⟩
  exact Bytes.str (e := 5) hb (by simp) (by simp) (by simp)
theorem cat_bytes (b : UInt8) (l : List UInt8) : (⟨#[b]⟩ : ByteArray) ++ ⟨l.toArray⟩ = ⟨(b :: l).toArray⟩ := by
  apply ByteArray.ext
  simp
set_option maxRecDepth 10000 in
theorem rgroups_ev (u : Nat) : ∀ (h : Hp), u < 18446744073709551616 → EvA Try.prog 120 [.int .u64 u] (fun r h' => r = .string ⟨(enc u).toArray⟩ ∧ Same h h') h := by
  induction u using Nat.strongRecOn with
  | ind u ih =>
    intro h hu
    refine EvA.body Try.func120 rfl (by kernel_rfl) (by simp) ?_
    apply Run.ok
    by_cases c : u < 128
    · have c' : (u : Int) < 128 := by omega
      have e := oneStr h (UInt8.ofNat u) (IntKind.u8.wrap (u : Int)) (by rw [wrap_u8 (by omega) (by omega)]; simp; omega)
      simp [c, c', zeros, capO, e, enc_small c]
      exact Same.new _
    · have c' : ¬ (u : Int) < 128 := by omega
      have w1 := wrap_u64 (a := 128 + (u : Int) % 128) (by omega) (by omega)
      have w2 := wrap_u64 (a := (u : Int) / 128) (by omega) (by omega)
      obtain ⟨bb, hbb⟩ : ∃ bb, bb = UInt8.ofNat (128 + u % 128) := ⟨_, rfl⟩
      have he : enc u = bb :: enc (u / 128) := by rw [hbb]; exact enc_big (by omega)
      have hbn : bb.toNat = 128 + u % 128 := by rw [hbb]; simp; omega
      have e := oneStr h bb (IntKind.u8.wrap (128 + (u : Int) % 128)) (by rw [wrap_u8 (by omega) (by omega)]; omega)
      have q1 : (u : Int).tmod 128 = (u : Int) % 128 := Int.tmod_eq_emod_of_nonneg (by omega)
      have q2 : (u : Int).tdiv 128 = (u : Int) / 128 := Int.tdiv_eq_ediv_of_nonneg (by omega)
      simp [c, c']
      refine WpA.drawn [0, 1, 2, 3, 4, 5, 6, 7, 8, 9, 10] (by kernel_rfl) (by decide +kernel) ?_
      simp [zeros, capO, e, q1, q2, w1, w2]
      refine after_call (ih (u / 128) (by omega) _ (by omega)) ?_
      rintro r h2 ⟨rfl, sm⟩
      have hlen := enc_length (u / 128)
      have hg := grps_le (u / 128) (by omega)
      have hB := sm.at (b := h.length) (B := .cells [.int .u8 (IntKind.u8.wrap (128 + (u : Int) % 128))] false none) (by simp)
      have e2 := oneStr' bb (IntKind.u8.wrap (128 + (u : Int) % 128)) (by rw [wrap_u8 (by omega) (by omega)]; omega) hB
      have hz : (⟨#[bb]⟩ : ByteArray).size + (⟨(enc (u / 128)).toArray⟩ : ByteArray).size ≤ 9223372036854775807 := by
        show 1 + (enc (u / 128)).toArray.size ≤ _
        simp; omega
      simp [hB, e2, hz, cat_bytes, he]
      exact (Same.new _).trans sm
theorem rcount_lay_ev (v : Value) (l : List UInt8) (n : Int) (h : Hp) (hb : Bytes h v l) (hl : l.length < 1099511627776) :
    EvA Try.prog 99 [v, .int .i64 n] (fun r h' => BAcc h.length h' r (l ++ cntB n) ∧ Same h h') h := by
  refine EvA.body Try.func99 rfl (by kernel_rfl) (by simp) ?_
  apply Run.ok
  have hb0 := behind_ev v l ⟨#[]⟩ h hb hl (by decide)
  by_cases c1 : n < 0
  · simp [c1]
    refine after_call hb0 ?_
    rintro r h' ⟨q1, q2⟩
    simp [cntB, c1]
    exact ⟨by simpa using q1, q2⟩
  · by_cases c2 : n > 2147483647
    · simp [c1, c2]
      refine after_call hb0 ?_
      rintro r h' ⟨q1, q2⟩
      simp [cntB, c2]
      exact ⟨by simpa using q1, q2⟩
    · have w1 := wrap_u64 (a := n) (by omega) (by omega)
      have w2 : ((n.toNat : Nat) : Int) = n := by omega
      simp [c1, c2, w1]
      have e := rgroups_ev n.toNat h (by omega)
      rw [w2] at e
      refine after_call e ?_
      rintro r h2 ⟨rfl, sm⟩
      simp
      have hlen := enc_length n.toNat
      have hg := grps_le n.toNat (by omega)
      refine after_call (behind_ev v l ⟨(enc n.toNat).toArray⟩ h2 (hb.same sm) hl (by simp [ByteArray.size]; omega)) ?_
      rintro r h3 ⟨q1, q2⟩
      have c3 : ¬ (n < 0 ∨ 2147483647 < n) := by omega
      simp [cntB, c3]
      exact ⟨BAcc.down sm.len (by simpa using q1), sm.trans q2⟩
end Go.Proofs.Ytaahkamnpobofaa
