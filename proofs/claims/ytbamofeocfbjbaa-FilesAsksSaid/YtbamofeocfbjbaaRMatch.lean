/- bastionref10's Check and Match: what they answer; no condition. -/
import Derived.Test.YtbamofeocfbjbaaMatch
namespace Go.Proofs.Ytbamofeocfbjbaa
open Go.Ab Go.Glob
theorem u8_lt (c d : UInt8) (n : Nat) (hn : n = d.toNat) : decide ((((c.toNat : Nat) : Int)) < (n : Int)) = decide (c < d) := by
  subst hn
  rw [decide_eq_decide, UInt8.lt_iff_toNat_lt]; omega
theorem u8_gt (c d : UInt8) (n : Nat) (hn : n = d.toNat) : decide ((n : Int) < ((c.toNat : Nat) : Int)) = decide (d < c) := by
  subst hn
  rw [decide_eq_decide, UInt8.lt_iff_toNat_lt]; omega
theorem rcheck_base (p : List UInt8) : EvA Try.prog 108 [.string (bs p)] (fun r h' => r = .int .i64 (chk p) ∧ h' = []) [] := by
  refine EvA.body Try.func108 rfl (by kernel_rfl) (by simp) ?_
  apply Run.ok
  by_cases c1 : 64 < p.length
  · have c1' : (64 : Int) < p.length := by omega
    simp [c1', chk, c1]
  · have c1' : ¬ (64 : Int) < p.length := by omega
    by_cases c2 : p = []
    · subst c2; simp [chk]
    · simp [c1', c2]
      refine WpA.loop (fun k fr h' => ∃ i, k = p.length - i ∧ i ≤ p.length ∧ fr 0 = .string (bs p) ∧ fr 3 = .int .i64 (i : Nat) ∧ h' = [] ∧ bads (p.take i) = false) (k := p.length) ⟨0, by simp, by omega, by simp, by simp, rfl, by simp [bads]⟩ ?_
      rintro k fr h' ⟨i, rfl, hi, f0, f3, rfl, hb⟩
      apply Run.ok
      by_cases c : i < p.length
      · have c' : (i : Int) < p.length := by omega
        have hg : p[i]? = some p[i] := List.getElem?_eq_getElem c
        have w1 : IntKind.i64.wrap ((i : Int) + 1) = (i : Int) + 1 := wrap_i64 (by omega) (by omega)
        have htk : p.take (i + 1) = p.take i ++ [p[i]] := by rw [List.take_succ_eq_append_getElem c]
        have u33 : decide ((((p[i]).toNat : Nat) : Int) < 33) = decide (p[i] < 33) := u8_lt p[i] 33 33 rfl
        have u126 : decide ((126 : Int) < (((p[i]).toNat : Nat) : Int)) = decide (126 < p[i]) := u8_gt p[i] 126 126 rfl
        have hbb : badB p[i] = (decide (p[i] < 33) || decide (126 < p[i])) := rfl
        cases h1 : decide (p[i] < 33) with
        | true =>
          have hbad : bads p = true := List.any_eq_true.2 ⟨p[i], List.getElem_mem _, by rw [hbb, h1]; rfl⟩
          rw [h1] at u33
          simp [f0, f3, c', hg, c, u33]
          simp [chk, c1, c2, hbad]
        | false =>
          rw [h1] at u33
          cases h2 : decide (126 < p[i]) with
          | true =>
            have hbad : bads p = true := List.any_eq_true.2 ⟨p[i], List.getElem_mem _, by rw [hbb, h1, h2]; rfl⟩
            rw [h2] at u126
            simp [f0, f3, c', hg, c, u33, u126]
            simp [chk, c1, c2, hbad]
          | false =>
            rw [h2] at u126
            simp [f0, f3, c', hg, c, u33, u126, w1]
            refine ⟨p.length - (i + 1), by omega, i + 1, rfl, by omega, by simp, ?_⟩
            rw [htk]
            simp only [bads, List.any_append] at hb ⊢
            rw [hb]
            simp [hbb, h1, h2]
      · have c' : ¬ (i : Int) < p.length := by omega
        rw [List.take_of_length_le (by omega)] at hb
        simp [f0, f3, c']
        simp [chk, c1, c2, hb]
theorem rcheck_ev (p : List UInt8) (h : Hp) : EvA Try.prog 108 [.string (bs p)] (fun r h' => h' = h ∧ r = .int .i64 (chk p)) h :=
  EvA.base (h0 := []) (by simp [flat, ground]) ((rcheck_base p).mono fun r h' hq => ⟨by rw [hq.1]; rfl, hq.1⟩)
/-- the table: does the pattern from j on match the text from k on? -/
noncomputable def tab (p s : List UInt8) (j k : Nat) : Bool := bw s (pcs (p.drop j)) k
/-- what 'one' may look up -/
def RY (h : Hp) (y : Nat) (p s : List UInt8) (i k : Nat) : Prop := ∃ cs, h[y]? = some (.cells cs false none) ∧ ∀ j, i ≤ j → j ≤ p.length → ∃ b ds, cs[j]? = some (.slice (some ⟨b, 0, none⟩) (s.length + 1) (s.length + 1)) ∧ h[b]? = some (.cells ds false none) ∧
  ∀ k', k' ≤ s.length → (i < j ∨ k < k') → ds[k']? = some (.bool (tab p s j k'))
theorem RY.at {h : Hp} {y : Nat} {p s : List UInt8} {i k : Nat} (hy : RY h y p s i k) (j k' : Nat) (h1 : i ≤ j) (h2 : j ≤ p.length) (h3 : k' ≤ s.length) (h4 : i < j ∨ k < k') :
    ∃ b, loadA Try.prog 119 (.pointer (some ⟨y, j, none⟩)) h = some (.slice (some ⟨b, 0, none⟩) (s.length + 1) (s.length + 1)) ∧ loadA Try.prog 4 (.pointer (some ⟨b, k', none⟩)) h = some (.bool (tab p s j k')) := by
  obtain ⟨cs, e1, e2⟩ := hy
  obtain ⟨b, ds, e3, e4, e5⟩ := e2 j h1 h2
  exact ⟨b, by simp [loadA, e1, e3], by simp [loadA, e4, e5 k' h3 h4]⟩
set_option maxHeartbeats 4000000 in
theorem one_ev (p s : List UInt8) (i k y : Nat) (h : Hp) (hp : p.length < 1000000000) (hs : s.length < 1000000000) (hi : i ≤ p.length) (hk : k ≤ s.length) (hy : RY h y p s i k) :
    EvA Try.prog 109 [.string (bs p), .string (bs s), .int .i64 (i : Nat), .int .i64 (k : Nat), .slice (some ⟨y, 0, none⟩) (p.length + 1) (p.length + 1)] (fun r h' => r = .bool (tab p s i k) ∧ h' = h) h := by
  have iy : ∀ (j : Nat) (z : Int), z = (j : Nat) → j ≤ p.length → indexAddrA Try.prog 125 (.slice (some ⟨y, 0, none⟩) (p.length + 1) (p.length + 1)) (.int .i64 z) = some (.pointer (some ⟨y, j, none⟩)) := by
    intro j z hz hj
    rw [indexAddr_at (z := 1) (e := 119) (by simp) (by simp) hz (by omega)]; simp
  have ix : ∀ (b j : Nat) (z : Int), z = (j : Nat) → j ≤ s.length → indexAddrA Try.prog 119 (.slice (some ⟨b, 0, none⟩) (s.length + 1) (s.length + 1)) (.int .i64 z) = some (.pointer (some ⟨b, j, none⟩)) := by
    intro b j z hz hj
    rw [indexAddr_at (z := 1) (e := 4) (by simp) (by simp) hz (by omega)]; simp
  have u42 : ∀ c : UInt8, (((c.toNat : Nat) : Int) == 42) = decide (c = 42) := fun c => u8_beq c 42 42 rfl
  have u63 : ∀ c : UInt8, (((c.toNat : Nat) : Int) == 63) = decide (c = 63) := fun c => u8_beq c 63 63 rfl
  have n63 : ∀ c : UInt8, (((c.toNat : Nat) : Int) != 63) = !decide (c = 63) := fun c => u8_bne c 63 63 rfl
  have u47 : ∀ c : UInt8, (((c.toNat : Nat) : Int) == 47) = decide (c = 47) := fun c => u8_beq c 47 47 rfl
  have n47 : ∀ c : UInt8, (((c.toNat : Nat) : Int) != 47) = !decide (c = 47) := fun c => u8_bne c 47 47 rfl
  have ncd : ∀ c d : UInt8, (((c.toNat : Nat) : Int) != ((d.toNat : Nat) : Int)) = !decide (c = d) := fun c d => u8_bne c d d.toNat rfl
  refine EvA.body Try.func109 rfl (by kernel_rfl) (by simp) ?_
  apply Run.ok
  have hks : ((k : Int) == s.length) = decide (k = s.length) := by rw [Bool.eq_iff_iff]; simp; omega
  have hkl : decide ((k : Int) < s.length) = decide (k < s.length) := by rw [decide_eq_decide]; omega
  have w1 : IntKind.i64.wrap ((i : Int) + 1) = (i : Int) + 1 := wrap_i64 (by omega) (by omega)
  have w2 : IntKind.i64.wrap ((i : Int) + 1 + 1) = (i : Int) + 2 := by rw [wrap_i64 (by omega) (by omega)]; omega
  have w3 : IntKind.i64.wrap ((k : Int) + 1) = (k : Int) + 1 := wrap_i64 (by omega) (by omega)
  by_cases c1 : i = p.length
  · have c1' : ((i : Int) == p.length) = true := by simp; omega
    have hT : tab p s i k = decide (k = s.length) := by
      rw [tab, c1, List.drop_length, pcs_nil, bw_nil, Bool.eq_iff_iff]; simp
    simp [c1', hks, hT]
  · have hi' : i < p.length := by omega
    have c1' : ((i : Int) == p.length) = false := by simp; omega
    have hg : p[i]? = some p[i] := List.getElem?_eq_getElem hi'
    have hdr : p.drop i = p[i] :: p.drop (i + 1) := List.drop_eq_getElem_cons hi'
    generalize p[i] = c0 at hg hdr
    have iyi := iy i i rfl hi
    have ixk1 := fun b (hk1 : k < s.length) => ix b (k + 1) ((k : Int) + 1) (by simp) (by omega)
    by_cases c2 : c0 = 42
    · subst c2
      by_cases c3 : i + 1 < p.length ∧ p[i + 1]? = some 42
      · obtain ⟨c4, c5⟩ := c3
        have c4' : (i : Int) + 1 < p.length := by omega
        have hd2 : p.drop (i + 1) = 42 :: p.drop (i + 2) := by
          rw [List.drop_eq_getElem_cons c4]
          rw [List.getElem?_eq_getElem c4] at c5
          simp at c5
          rw [c5]
        have hpc : pcs (p.drop i) = .two :: pcs (p.drop (i + 2)) := by rw [hdr, hd2, pcs_two]
        have hT : tab p s i k = (tab p s (i + 2) k || (decide (k < s.length) && tab p s i (k + 1))) := by
          simp only [tab]; rw [hpc]; exact bw_two s _ k hk
        obtain ⟨b, e1, e2⟩ := hy.at (i + 2) k (by omega) (by omega) hk (.inl (by omega))
        have iy2 := iy (i + 2) ((i : Int) + 2) (by simp) (by omega)
        have ixk := ix b k k rfl hk
        have hgi : ((i : Int) + 1).toNat = i + 1 := by omega
        have h01 : (0 : Int) ≤ (i : Int) + 1 := by omega
        cases h1 : tab p s (i + 2) k with
        | true =>
          rw [h1] at e2 hT
          simp [c1', hg, u42, w1, w2, c4', c5, hgi, h01, iy2, e1, ixk, e2, -load_ptr, hT]
        | false =>
          rw [h1] at e2 hT
          by_cases c6 : k < s.length
          · have c6' : (k : Int) < s.length := by omega
            obtain ⟨b2, e3, e4⟩ := hy.at i (k + 1) (Nat.le_refl _) hi (by omega) (.inr (by omega))
            have ixk1' := ixk1 b2 c6
            simp only [c6, decide_true, Bool.true_and, Bool.false_or] at hT
            simp [c1', hg, u42, w1, w2, w3, c4', c5, hgi, h01, iy2, iyi, e1, ixk, e2, e3, e4, ixk1', -load_ptr, hT, c6']
          · have c6' : ¬ (k : Int) < s.length := by omega
            simp only [c6, decide_false, Bool.false_and, Bool.false_or] at hT
            simp [c1', hg, u42, w1, w2, w3, c4', c5, hgi, h01, iy2, iyi, e1, ixk, e2, -load_ptr, hT, c6']
      · have hpc : pcs (p.drop i) = .one :: pcs (p.drop (i + 1)) := by
          rw [hdr, pcs_one]
          · rfl
          · rintro ⟨_, h2⟩
            rw [List.head?_drop] at h2
            refine c3 ⟨?_, h2⟩
            rcases Nat.lt_or_ge (i + 1) p.length with h' | h'
            · exact h'
            · rw [List.getElem?_eq_none h'] at h2; simp at h2
        have hT : tab p s i k = (tab p s (i + 1) k || (decide (k < s.length) && s.getD k 0 != 47 && tab p s i (k + 1))) := by
          simp only [tab]; rw [hpc]; exact bw_one s _ k hk
        obtain ⟨b, e1, e2⟩ := hy.at (i + 1) k (by omega) (by omega) hk (.inl (by omega))
        have iy2 := iy (i + 1) ((i : Int) + 1) (by simp) (by omega)
        have ixk := ix b k k rfl hk
        have hgi : ((i : Int) + 1).toNat = i + 1 := by omega
        have h01 : (0 : Int) ≤ (i : Int) + 1 := by omega
        by_cases c4 : i + 1 < p.length
        · have c4' : (i : Int) + 1 < p.length := by omega
          obtain ⟨d, d1, d2⟩ : ∃ d, p[i + 1]? = some d ∧ d ≠ 42 := ⟨p[i + 1], List.getElem?_eq_getElem c4, fun h => c3 ⟨c4, by rw [List.getElem?_eq_getElem c4, h]⟩⟩
          cases h1 : tab p s (i + 1) k with
          | true =>
            rw [h1] at e2 hT
            simp [c1', hg, u42, w1, w2, c4', d1, d2, hgi, h01, iy2, e1, ixk, e2, -load_ptr, hT]
          | false =>
            rw [h1] at e2 hT
            by_cases c6 : k < s.length
            · have c6' : (k : Int) < s.length := by omega
              obtain ⟨b2, e3, e4⟩ := hy.at i (k + 1) (Nat.le_refl _) hi (by omega) (.inr (by omega))
              have ixk1' := ixk1 b2 c6
              obtain ⟨sk, hsk⟩ : ∃ sk, s[k]? = some sk := ⟨s[k], List.getElem?_eq_getElem c6⟩
              have hsd : s.getD k 0 = sk := by simp [List.getD_eq_getElem?_getD, hsk]
              rw [hsd] at hT
              by_cases c7 : sk = 47
              · subst c7
                simp only [c6, bne_self_eq_false, Bool.and_false, Bool.false_and, Bool.or_false] at hT
                simp [c1', hg, u42, n47, w1, w2, w3, c4', d1, d2, hgi, h01, iy2, iyi, e1, ixk, e2, e3, e4, ixk1', hsk, -load_ptr, hT, c6']
              · have c7' : (sk != 47) = true := by simpa using c7
                simp only [c6, c7', decide_true, Bool.true_and, Bool.and_true, Bool.false_or] at hT
                simp [c1', hg, u42, n47, w1, w2, w3, c4', d1, d2, hgi, h01, iy2, iyi, e1, ixk, e2, e3, e4, ixk1', hsk, c7, -load_ptr, hT, c6']
            · have c6' : ¬ (k : Int) < s.length := by omega
              simp only [c6, decide_false, Bool.false_and, Bool.false_or] at hT
              simp [c1', hg, u42, n47, w1, w2, w3, c4', d1, d2, hgi, h01, iy2, iyi, e1, ixk, e2, -load_ptr, hT, c6']
        · have c4' : ¬ (i : Int) + 1 < p.length := by omega
          cases h1 : tab p s (i + 1) k with
          | true =>
            rw [h1] at e2 hT
            simp [c1', hg, u42, w1, w2, c4', iy2, e1, ixk, e2, -load_ptr, hT]
          | false =>
            rw [h1] at e2 hT
            by_cases c6 : k < s.length
            · have c6' : (k : Int) < s.length := by omega
              obtain ⟨b2, e3, e4⟩ := hy.at i (k + 1) (Nat.le_refl _) hi (by omega) (.inr (by omega))
              have ixk1' := ixk1 b2 c6
              obtain ⟨sk, hsk⟩ : ∃ sk, s[k]? = some sk := ⟨s[k], List.getElem?_eq_getElem c6⟩
              have hsd : s.getD k 0 = sk := by simp [List.getD_eq_getElem?_getD, hsk]
              rw [hsd] at hT
              by_cases c7 : sk = 47
              · subst c7
                simp only [c6, bne_self_eq_false, Bool.and_false, Bool.false_and, Bool.or_false] at hT
                simp [c1', hg, u42, n47, w1, w2, w3, c4', iy2, iyi, e1, ixk, e2, e3, e4, ixk1', hsk, -load_ptr, hT, c6']
              · have c7' : (sk != 47) = true := by simpa using c7
                simp only [c6, c7', decide_true, Bool.true_and, Bool.and_true, Bool.false_or] at hT
                simp [c1', hg, u42, n47, w1, w2, w3, c4', iy2, iyi, e1, ixk, e2, e3, e4, ixk1', hsk, c7, -load_ptr, hT, c6']
            · have c6' : ¬ (k : Int) < s.length := by omega
              simp only [c6, decide_false, Bool.false_and, Bool.false_or] at hT
              simp [c1', hg, u42, n47, w1, w2, w3, c4', iy2, iyi, e1, ixk, e2, -load_ptr, hT, c6']
    · have hb : p.drop (i + 1) = (p.drop i).drop 1 := by simp
      have hpc : pcs (p.drop i) = pcOf c0 :: pcs (p.drop (i + 1)) := by
        rw [hdr, pcs_one]
        rintro ⟨h1, _⟩; exact c2 h1
      have iy2 := iy (i + 1) ((i : Int) + 1) (by simp) (by omega)
      simp [c1', hg, u42, c2]
      refine WpA.drawn [0, 1, 2, 3, 4, 5, 6, 7, 8, 9, 10, 11, 12, 13, 14, 15, 16, 17, 18, 19, 20, 21, 22, 23, 24, 25, 26, 27, 28, 29, 30] (by kernel_rfl) (by decide +kernel) ?_
      by_cases c6 : k < s.length
      · have c6' : ¬ (k = s.length) := by omega
        obtain ⟨b2, e3, e4⟩ := hy.at (i + 1) (k + 1) (by omega) (by omega) (by omega) (.inl (by omega))
        have ixk1' := ixk1 b2 c6
        obtain ⟨sk, hsk⟩ : ∃ sk, s[k]? = some sk := ⟨s[k], List.getElem?_eq_getElem c6⟩
        have hsd : s.getD k 0 = sk := by simp [List.getD_eq_getElem?_getD, hsk]
        rcases pcOf_cases c0 with ⟨d1, _⟩ | ⟨d1, d2⟩ | ⟨d1, d2, d3⟩
        · exact absurd d1 c2
        · subst d1
          have hT : tab p s i k = (decide (k < s.length) && s.getD k 0 != 47 && tab p s (i + 1) (k + 1)) := by
            simp only [tab]; rw [hpc, d2]; exact bw_any s _ k
          rw [hsd] at hT
          by_cases c7 : sk = 47
          · subst c7
            simp only [c6, bne_self_eq_false, Bool.and_false, Bool.false_and] at hT
            simp [c1', hg, hks, c6', u63, n63, u47, ncd, hsk, hT]
          · have c7' : (sk != 47) = true := by simpa using c7
            simp only [c6, c7', decide_true, Bool.true_and] at hT
            simp [c1', hg, hks, c6', u63, n63, u47, ncd, hsk, c7, w1, w3, iy2, e3, e4, ixk1', -load_ptr, hT]
        · have hT : tab p s i k = (decide (k < s.length) && s.getD k 0 == c0 && tab p s (i + 1) (k + 1)) := by
            simp only [tab]; rw [hpc, d3]; exact bw_ch s c0 _ k
          rw [hsd] at hT
          by_cases c7 : c0 = sk
          · subst c7
            simp only [c6, beq_self_eq_true, decide_true, Bool.true_and] at hT
            simp [c1', hg, hks, c6', u63, n63, u47, ncd, d2, hsk, w1, w3, iy2, e3, e4, ixk1', -load_ptr, hT]
          · have c7' : (sk == c0) = false := by simpa using fun h => c7 h.symm
            simp only [c6, c7', Bool.and_false, Bool.false_and] at hT
            simp [c1', hg, hks, c6', u63, n63, u47, ncd, d2, hsk, c7, hT]
      · have c6' : k = s.length := by omega
        have hT : tab p s i k = false := by
          simp only [tab]; rw [hpc]
          rcases pcOf_cases c0 with ⟨d1, _⟩ | ⟨d1, d2⟩ | ⟨d1, d2, d3⟩
          · exact absurd d1 c2
          · rw [d2, bw_any]; simp [c6]
          · rw [d3, bw_ch]; simp [c6]
        simp [c1', hg, hks, c6', hT]
        rw [← c6', hT]
/-- the table, so many rows done -/
noncomputable def rRow (p s : List UInt8) (m : Nat) : List Value := rowV (fun j => if p.length < j + m then .slice (some ⟨p.length - j + 1, 0, none⟩) (s.length + 1) (s.length + 1) else .slice none 0 0) (p.length + 1)
noncomputable def rB (p s : List UInt8) (m t : Nat) : Hp := .cells (rRow p s m) false none :: (List.range t).map (fun t => .cells (rowB (tab p s (p.length - t)) (s.length + 1)) false none)
theorem rB_length (p s : List UInt8) (m t : Nat) : (rB p s m t).length = t + 1 := by simp [rB]
theorem rB_last (p s : List UInt8) (m t : Nat) (X : Blk) : (rB p s m t ++ [X])[t + 1]? = some X := by
  rw [List.getElem?_append_right (by rw [rB_length]; omega), rB_length]; simp
theorem rB_set (p s : List UInt8) (m t : Nat) (X Y : Blk) : (rB p s m t ++ [X]).set (t + 1) Y = rB p s m t ++ [Y] := by
  rw [List.set_append_right _ _ (by rw [rB_length]; omega), rB_length]; simp
theorem rB_zero (p s : List UInt8) (m t : Nat) (l : Hp) : (rB p s m t ++ l)[0]? = some (.cells (rRow p s m) false none) := by simp [rB]
theorem rB_get (p s : List UInt8) (m t u : Nat) (l : Hp) (hu : u < t) : (rB p s m t ++ l)[u + 1]? = some (.cells (rowB (tab p s (p.length - u)) (s.length + 1)) false none) := by
  rw [List.getElem?_append_left (by rw [rB_length]; omega)]
  simp [rB, hu]
theorem rRow_get (p s : List UInt8) (m j : Nat) (hj : j ≤ p.length) (hm : p.length < j + m) : (rRow p s m)[j]? = some (.slice (some ⟨p.length - j + 1, 0, none⟩) (s.length + 1) (s.length + 1)) := by
  rw [rRow, rowV_get (by omega), if_pos hm]
theorem rRow_length (p s : List UInt8) (m : Nat) : (rRow p s m).length = p.length + 1 := by simp [rRow]
theorem rRow_set (p s : List UInt8) (m i : Nat) (hi : i + m = p.length) : (rRow p s m).set i (.slice (some ⟨m + 1, 0, none⟩) (s.length + 1) (s.length + 1)) = rRow p s (m + 1) := by
  rw [rRow, rowV_set]
  refine rowV_ext fun j hj => ?_
  by_cases h : j = i
  · subst h
    rw [if_pos rfl, if_pos (by omega), show p.length - j + 1 = m + 1 by omega]
  · rw [if_neg h]
    by_cases h2 : p.length < j + m
    · rw [if_pos h2, if_pos (by omega)]
    · rw [if_neg h2, if_neg (by omega)]
theorem rB_RY (p s : List UInt8) (m i k : Nat) (g : Row) (hi : i + m = p.length) (hg : ∀ k', k < k' → k' ≤ s.length → g k' = tab p s i k') : RY (rB p s (m + 1) m ++ [.cells (rowB g (s.length + 1)) false none]) 0 p s i k := by
  refine ⟨_, rB_zero p s (m + 1) m _, fun j h1 h2 => ?_⟩
  by_cases h : j = i
  · refine ⟨_, rowB g (s.length + 1), rRow_get p s (m + 1) j h2 (by omega), by rw [show p.length - j + 1 = m + 1 by omega]; exact rB_last p s (m + 1) m _, fun k' h3 h4 => ?_⟩
    rw [rowB_get (by omega), hg k' (by omega) h3, h]
  · refine ⟨_, _, rRow_get p s (m + 1) j h2 (by omega), rB_get p s (m + 1) m (p.length - j) _ (by omega), fun k' h3 h4 => ?_⟩
    rw [rowB_get (by omega), show p.length - (p.length - j) = j by omega]
set_option maxRecDepth 100000 in
set_option maxHeartbeats 4000000 in
theorem rmatch_base (p s : List UInt8) (hs : s.length < 1000000000) : EvA Try.prog 88 [.string (bs p), .string (bs s)] (fun r _ => flat r = true ∧ r = .bool (M p s)) [] := by
  refine EvA.body Try.func88 rfl (by kernel_rfl) (by simp) ?_
  apply Run.ok
  simp
  refine after_call (rcheck_ev p _) ?_
  rintro r h' ⟨rfl, rfl⟩
  by_cases c : chk p = 0
  · have hp : p.length ≤ 64 := by
      unfold chk at c
      split at c
      · omega
      · omega
    have w : ∀ n : Nat, n < 1000000001 → IntKind.i64.wrap ((n : Int) + 1) = (n : Int) + 1 := fun n hn => wrap_i64 (by omega) (by omega)
    have wp := w p.length (by omega)
    have ws := w s.length (by omega)
    have mk1 : makeSliceA Try.prog 125 (.int .i64 ((p.length : Int) + 1)) (.int .i64 ((p.length : Int) + 1)) [] = some (.slice (some ⟨0, 0, none⟩) (p.length + 1) (p.length + 1), [.cells (rRow p s 0) false none]) := by
      rw [makeSlice_of (e := 119) (by simp) fc_infoT119 fc_zeroT119, if_pos ⟨by omega, by omega, by omega, rfl, by omega⟩]
      have : zeros [Value.slice none 0 0] (p.length + 1) = rRow p s 0 := by
        rw [zeros_one]; exact rowV_ext fun j hj => by rw [if_neg (by omega)]
      simpa using this
    have mk2 : ∀ h : Hp, makeSliceA Try.prog 119 (.int .i64 ((s.length : Int) + 1)) (.int .i64 ((s.length : Int) + 1)) h = some (.slice (some ⟨h.length, 0, none⟩) (s.length + 1) (s.length + 1), h ++ [.cells (rowB (fun _ => false) (s.length + 1)) false none]) := by
      intro h
      rw [makeSlice_of (e := 4) (by simp) fc_infoT4 fc_zeroT4, if_pos ⟨by omega, by omega, by omega, rfl, by omega⟩, zeros_one]
      rfl
    have iy : ∀ (j : Nat) (z : Int), z = (j : Nat) → j ≤ p.length → indexAddrA Try.prog 125 (.slice (some ⟨0, 0, none⟩) (p.length + 1) (p.length + 1)) (.int .i64 z) = some (.pointer (some ⟨0, j, none⟩)) := by
      intro j z hz hj
      rw [indexAddr_at (z := 1) (e := 119) (by simp) (by simp) hz (by omega)]; simp
    have ix : ∀ (b j : Nat) (z : Int), z = (j : Nat) → j ≤ s.length → indexAddrA Try.prog 119 (.slice (some ⟨b, 0, none⟩) (s.length + 1) (s.length + 1)) (.int .i64 z) = some (.pointer (some ⟨b, j, none⟩)) := by
      intro b j z hz hj
      rw [indexAddr_at (z := 1) (e := 4) (by simp) (by simp) hz (by omega)]; simp
    simp [c, wp, mk1]
    refine WpA.loop (fun j fr h' => ∃ m, j = p.length + 1 - m ∧ m ≤ p.length + 1 ∧ fr 0 = .string (bs p) ∧ fr 1 = .string (bs s) ∧ fr 5 = .slice (some ⟨0, 0, none⟩) (p.length + 1) (p.length + 1) ∧ fr 6 = .int .i64 ((p.length : Int) - m) ∧ h' = rB p s m m)
      (k := p.length + 1) ⟨0, by simp, by omega, by simp, by simp, by simp, by simp, by simp [rB]⟩ ?_
    rintro j fr h' ⟨m, rfl, hm, f0, f1, f5, f6, rfl⟩
    apply Run.ok
    by_cases hlt : m ≤ p.length
    · obtain ⟨i, hi⟩ : ∃ i, i + m = p.length := ⟨p.length - m, by omega⟩
      have hiz : (p.length : Int) - m = (i : Nat) := by omega
      have c1 : (0 : Int) ≤ (i : Nat) := by omega
      have iyi := iy i i rfl (by omega)
      rw [hiz] at f6
      have hB : (rB p s m m ++ [Blk.cells (rowB (fun _ => false) (s.length + 1)) false none])[0]? = some (.cells (rRow p s m) false none) := rB_zero p s m m _
      have hl := rB_length p s m m
      have hst : storeA Try.prog 119 (.pointer (some ⟨0, i, none⟩)) (.slice (some ⟨m + 1, 0, none⟩) (s.length + 1) (s.length + 1)) (rB p s m m ++ [Blk.cells (rowB (fun _ => false) (s.length + 1)) false none]) = some (rB p s (m + 1) m ++ [Blk.cells (rowB (fun _ => false) (s.length + 1)) false none]) := by
        rw [store_ptr, hB]
        simp [rRow_length, rRow_set p s m i hi, rB, show i + 1 ≤ p.length + 1 by omega]
      simp [f0, f1, f5, f6, c1, ws, mk2, hl, iyi, hst, -store_ptr]
      refine WpA.loop (fun j fr h' => ∃ (q : Nat) (g : Row), j = s.length + 1 - q ∧ q ≤ s.length + 1 ∧ fr 0 = .string (bs p) ∧ fr 1 = .string (bs s) ∧ fr 5 = .slice (some ⟨0, 0, none⟩) (p.length + 1) (p.length + 1) ∧ fr 6 = .int .i64 (i : Nat) ∧ fr 7 = .int .i64 ((s.length : Int) - q) ∧
          h' = rB p s (m + 1) m ++ [Blk.cells (rowB g (s.length + 1)) false none] ∧ ∀ k', s.length < k' + q → k' ≤ s.length → g k' = tab p s i k')
        (k := s.length + 1) ⟨0, _, by simp, by omega, by simp [f0], by simp [f1], by simp [f5], by simp [f6], by simp, rfl, fun k' h1 h2 => by omega⟩ ?_
      rintro j fr h' ⟨q, g, rfl, hq, f0, f1, f5, f6, f7, rfl, hg⟩
      apply Run.ok
      by_cases hq2 : q ≤ s.length
      · obtain ⟨k, hk⟩ : ∃ k, k + q = s.length := ⟨s.length - q, by omega⟩
        have hkz : (s.length : Int) - q = (k : Nat) := by omega
        have c2 : (0 : Int) ≤ (k : Nat) := by omega
        rw [hkz] at f7
        have wk : IntKind.i64.wrap ((k : Int) - 1) = (k : Int) - 1 := wrap_i64 (by omega) (by omega)
        have hld : loadA Try.prog 119 (.pointer (some ⟨0, i, none⟩)) (rB p s (m + 1) m ++ [Blk.cells (rowB g (s.length + 1)) false none]) = some (.slice (some ⟨m + 1, 0, none⟩) (s.length + 1) (s.length + 1)) := by
          rw [load_ptr, rB_zero]
          simp [rRow_get p s (m + 1) i (by omega) (by omega), show p.length - i = m by omega]
        have ixk := ix (m + 1) k k rfl (by omega)
        have hst2 : storeA Try.prog 4 (.pointer (some ⟨m + 1, k, none⟩)) (.bool (tab p s i k)) (rB p s (m + 1) m ++ [Blk.cells (rowB g (s.length + 1)) false none]) = some (rB p s (m + 1) m ++ [Blk.cells (rowB (fun x => if x = k then tab p s i k else g x) (s.length + 1)) false none]) := by
          rw [store_ptr, rB_last]
          simp [rB_set, show k + 1 ≤ s.length + 1 by omega]
        simp [f7, c2]
        refine WpA.drawnA [0, 1, 2, 3, 4, 5, 6, 7, 8, 9, 10, 11, 12] [[], [], [], [], [], [], [], [], [], [], [5, 6, 7, 8, 9], [], [0, 1, 2, 3, 4, 5, 6, 7, 8, 9, 10, 11]] (by kernel_rfl) (by decide +kernel) (by decide +kernel) ?_
        simp [f0, f1, f5, f6, f7, iyi, hld, -load_ptr]
        refine after_call (one_ev p s i k 0 _ (by omega) (by omega) (by omega) (by omega) (rB_RY p s m i k g hi (fun k' h1 h2 => hg k' (by omega) h2))) ?_
        rintro r h' ⟨rfl, rfl⟩
        simp [f0, f1, f5, f6, f7, iyi, hld, -load_ptr, ixk, hst2, -store_ptr, wk]
        refine ⟨s.length + 1 - (q + 1), by omega, q + 1, rfl, by omega, by omega, ?_⟩
        refine ⟨_, rfl, fun k' h1 h2 => ?_⟩
        by_cases hkk : k' = k
        · rw [if_pos hkk, hkk]
        · rw [if_neg hkk]; exact hg k' (by omega) h2
      · have hqe : q = s.length + 1 := by omega
        have c2 : ¬ (0 : Int) ≤ (s.length : Int) - q := by omega
        have wi : IntKind.i64.wrap ((i : Int) - 1) = (i : Int) - 1 := wrap_i64 (by omega) (by omega)
        have hgg : rowB g (s.length + 1) = rowB (tab p s i) (s.length + 1) := rowB_ext fun k' hk' => hg k' (by omega) (by omega)
        have hfin : rB p s (m + 1) m ++ [Blk.cells (rowB g (s.length + 1)) false none] = rB p s (m + 1) (m + 1) := by
          simp [rB, List.range_succ, hgg, show p.length - m = i by omega]
        simp [f7, hq2, f6, wi, hfin]
        exact ⟨p.length + 1 - (m + 1), by omega, m + 1, rfl, by omega, f0, f1, f5, by omega, rfl⟩
    · have hme : m = p.length + 1 := by omega
      subst hme
      have c1 : ¬ ((p.length : Int) + 1 ≤ p.length) := by omega
      have iy0 := iy 0 0 rfl (by omega)
      have ix0 := fun b => ix b 0 0 rfl (by omega)
      have hB := rB_zero p s (p.length + 1) (p.length + 1) []
      have hG := rB_get p s (p.length + 1) (p.length + 1) p.length [] (by omega)
      rw [List.append_nil] at hB hG
      have hld : loadA Try.prog 119 (.pointer (some ⟨0, 0, none⟩)) (rB p s (p.length + 1) (p.length + 1)) = some (.slice (some ⟨p.length + 1, 0, none⟩) (s.length + 1) (s.length + 1)) := by
        rw [load_ptr, hB]
        simp [rRow_get p s (p.length + 1) 0 (by omega) (by omega)]
      have hld2 : loadA Try.prog 4 (.pointer (some ⟨p.length + 1, 0, none⟩)) (rB p s (p.length + 1) (p.length + 1)) = some (.bool (tab p s 0 0)) := by
        rw [load_ptr, hG, Nat.sub_self]
        simp [rowB_get]
      simp [f6, c1, f5, iy0, hld, hld2, ix0, -load_ptr, flat, ground, M, c]
      simp [mp_bw, tab]
  · have c' : (chk p != 0) = true := by simpa using c
    simp [c, c', M, flat, ground]
theorem rmatch_ev (p s : List UInt8) (h : Hp) (hs : s.length < 1000000000) : EvA Try.prog 88 [.string (bs p), .string (bs s)] (fun r h' => h' = h ∧ r = .bool (M p s)) h := EvA.base (h0 := []) (by simp [flat, ground]) (rmatch_base p s hs)
end Go.Proofs.Ytbamofeocfbjbaa
