/- What glob's calls answer: patterns; no condition. -/
import Derived.Test.YtbamofeocfbjbaaPGlob
import Derived.Test.YtbamofeocfbjbaaAbF
import Derived.Test.YtbamofeocfbjbaaAb21
namespace Go.Proofs.Ytbamofeocfbjbaa
open Go.Ab Go.Glob

theorem bad1_ev (r : Int) (h : Hp) : EvA Try.prog 124 [.int .i32 r] (fun r' h' => r' = .bool (decide (r < 33) || decide (126 < r)) ∧ h' = h) h := by
  refine EvA.body Try.func124 rfl (by kernel_rfl) (by simp) ?_
  apply Run.ok
  by_cases c : r < 33
  · simp [c]
  · simp [c]
theorem dec_bad {s : ByteArray} {i : Nat} (hi : i < s.size) : (decide (((Utf8.decode s i).1 : Int) < 33) || decide (126 < ((Utf8.decode s i).1 : Int))) = badB s[i] := by
  by_cases c : s[i] < 128
  · rw [dec_lo hi c]
    simp only [badB, UInt8.lt_iff_toNat_lt]
    congr 1
    · rw [decide_eq_decide]; simp; omega
    · rw [decide_eq_decide]; simp; omega
  · have c' : 128 ≤ s[i] := by simpa [UInt8.le_iff_toNat_le, UInt8.lt_iff_toNat_lt] using c
    have := (dec_hi hi c').1
    have h1 : badB s[i] = true := by
      simp only [badB, Bool.or_eq_true, decide_eq_true_eq, UInt8.lt_iff_toNat_lt]
      right
      simp only [UInt8.le_iff_toNat_le] at c'
      simp at c' ⊢; omega
    rw [h1]
    simp; omega
theorem take_more (s : ByteArray) (i : Nat) (hi : i < s.size) : s.data.toList.take (i + 1) = s.data.toList.take i ++ [s[i]] := by
  rw [List.take_succ_eq_append_getElem (by simpa using hi)]; rfl
theorem mem_bads (s : ByteArray) (i : Nat) (hi : i < s.size) (hb : badB s[i] = true) : bads s.data.toList = true := by
  refine List.any_eq_true.2 ⟨s[i], ?_, hb⟩
  have : s.data.toList[i]'(by simpa using hi) = s[i] := rfl
  rw [← this]; exact List.getElem_mem _
theorem idx_ev (s : ByteArray) (h : Hp) : EvA Try.prog 140 [.string s, .func (.func 124) #[] #[], .bool true] (fun r _ => ∃ z : Int, r = .int .i64 z ∧ (0 ≤ z ↔ bads s.data.toList = true)) h := by
  refine EvA.body Try.func140 rfl (by kernel_rfl) (by simp) ?_
  apply Run.ok
  simp [range_string]
  refine WpA.loop (fun k fr h' => ∃ i, k = s.size - i ∧ i ≤ s.size ∧ fr 1 = .func (.func 124) #[] #[] ∧ fr 2 = .bool true ∧ fr 10 = .pointer (some ⟨h.length, 0, none⟩) ∧ h'[h.length]? = some (.siter s i) ∧ bads (s.data.toList.take i) = false)
    (k := s.size) ⟨0, by simp, by omega, by simp, by simp, by simp, by simp, by simp [bads]⟩ ?_
  rintro k fr h' ⟨i, rfl, hi, f1, f2, f10, hb, hbd⟩
  apply Run.ok
  by_cases c : i < s.size
  · have hn := next_more hb c
    have hlt : h.length < h'.length := hp_lt hb
    simp [f1, f2, f10, hn]
    refine after_call (bad1_ev _ _) ?_
    rintro r h2 ⟨rfl, rfl⟩
    have hbad := dec_bad c
    simp [f1, f2, f10, hbad]
    cases hB : badB s[i] with
    | true =>
      simp
      exact mem_bads s i c hB
    | false =>
      have hlo : s[i] < 128 := by
        simp only [badB, Bool.or_eq_false_iff, decide_eq_false_iff_not, UInt8.lt_iff_toNat_lt] at hB
        simp only [UInt8.lt_iff_toNat_lt]
        simp at hB ⊢; omega
      simp [f1, f2, f10]
      refine ⟨s.size - (i + 1), by omega, i + 1, rfl, by omega, ?_, ?_⟩
      · rw [dec_lo c hlo]
        simp [hlt]
      · rw [take_more s i c, bads, List.any_append]
        have := hbd
        rw [bads] at this
        rw [this]; simp [hB]
  · have hn := next_end hb c
    simp [f1, f2, f10, hn]
    rw [List.take_of_length_le (by simp; omega)] at hbd
    exact hbd
theorem contains_ev (s : ByteArray) (h : Hp) : EvA Try.prog 123 [.string s, .func (.func 124) #[] #[]] (fun r _ => r = .bool (bads s.data.toList)) h := by
  refine EvA.body Try.func123 rfl (by kernel_rfl) (by simp) ?_
  apply Run.ok
  simp
  refine after_call (Q := fun r _ => ∃ z : Int, r = .int .i64 z ∧ (0 ≤ z ↔ bads s.data.toList = true)) ?_ ?_
  · refine EvA.body Try.func134 rfl (by kernel_rfl) (by simp) ?_
    apply Run.ok
    simp
    refine after_call (idx_ev s h) ?_
    rintro r h' hq
    simpa using hq
  · rintro r h' ⟨z, rfl, hz⟩
    simp
    rw [Bool.eq_iff_iff]; simpa using hz
theorem check_base (p : List UInt8) : EvA Try.prog 97 [.string (bs p)] (fun r _ => flat r = true ∧ r = .int .i64 (chk p)) [] := by
  refine EvA.body Try.func97 rfl (by kernel_rfl) (by simp) ?_
  apply Run.ok
  by_cases c1 : 64 < p.length
  · have c1' : (64 : Int) < p.length := by omega
    simp [c1', chk, c1, flat, ground]
  · have c1' : ¬ (64 : Int) < p.length := by omega
    by_cases c2 : p = []
    · subst c2; simp [chk, flat, ground]
    · simp [c1', c2]
      refine after_call (contains_ev (bs p) _) ?_
      rintro r h' rfl
      simp
      cases hb : bads p with
      | true => simp [chk, c1, c2, hb, flat, ground]
      | false => simp [chk, c1, c2, hb, flat, ground]
theorem check_ev (p : List UInt8) (h : Hp) : EvA Try.prog 97 [.string (bs p)] (fun r h' => h' = h ∧ r = .int .i64 (chk p)) h := EvA.base (h0 := []) (by simp [flat, ground]) (check_base p)
theorem prefix_ev (s t : List UInt8) (h : Hp) : EvA Try.prog 110 [.string (bs s), .string (bs t)] (fun r h' => r = .bool (decide (t.length ≤ s.length) && decide (s.take t.length = t)) ∧ h' = h) h := by
  refine EvA.body Try.func110 rfl (by kernel_rfl) (by simp) ?_
  apply Run.ok
  simp
  refine after_call (Q := fun r h' => r = .bool (decide (t.length ≤ s.length) && decide (s.take t.length = t)) ∧ h' = h) ?_ ?_
  · refine EvA.body Try.func127 rfl (by kernel_rfl) (by simp) ?_
    apply Run.ok
    by_cases c : t.length ≤ s.length
    · have c' : (t.length : Int) ≤ s.length := by omega
      simp [c, c', bs_extract]
    · have c' : ¬ (t.length : Int) ≤ s.length := by omega
      simp [c, c']
  · rintro r h' ⟨rfl, rfl⟩
    simp
theorem pieces_ev (p : List UInt8) (h : Hp) : EvA Try.prog 98 [.string (bs p)] (fun r h' => r = .func (.func 125) #[] #[.pointer (some ⟨h.length, 0, none⟩)] ∧ h' = h ++ [.cells [.string (bs p)] false none]) h := by
  refine EvA.body Try.func98 rfl (by kernel_rfl) (by simp) ?_
  apply Run.ok
  simp
/-- the row of places that Match goes by -/
def rowB (f : Row) (n : Nat) : List Value := rowV (fun k => .bool (f k)) n
/-- Match's blocks -/
def mH (s : List UInt8) (f g : Row) (n : Nat) (rest : List UInt8) (L : LoopA) : Hp :=
  [.cells [.string (bs s)] false none, .cells (rowB f n) false none, .cells (rowB g n) false none, .cells [.slice (some ⟨1, 0, none⟩) n n] false none, .cells [.slice (some ⟨2, 0, none⟩) n n] false none, .cells [.string (bs rest)] false none, .loop L]
end Go.Proofs.Ytbamofeocfbjbaa
