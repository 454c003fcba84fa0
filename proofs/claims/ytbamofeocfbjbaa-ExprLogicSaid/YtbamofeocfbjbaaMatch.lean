/- glob.Match: what it answers; no condition. -/
import Derived.Test.YtbamofeocfbjbaaGlob
namespace Go.Proofs.Ytbamofeocfbjbaa
open Go.Ab Go.Glob
theorem readyL_busyL {L : LoopA} (h1 : L.st = .ready) (h2 : L.pend = none) : readyL (busyL L) = L := by cases L; simp_all [readyL, busyL]
@[simp] theorem rowB_length (f : Row) (n : Nat) : (rowB f n).length = n := by simp [rowB]
@[simp] theorem rowB_elem (f : Row) (n k : Nat) (h : k < (rowB f n).length) : (rowB f n)[k] = .bool (f k) := by simp [rowB, rowV]
theorem rowB_get {f : Row} {n k : Nat} (hk : k < n) : (rowB f n)[k]? = some (.bool (f k)) := rowV_get hk
@[simp] theorem rowB_set (f : Row) (n k : Nat) (b : Bool) : (rowB f n).set k (.bool b) = rowB (fun i => if i = k then b else f i) n := by
  rw [rowB, rowV_set]
  refine rowV_ext fun i _ => ?_
  by_cases h : i = k <;> simp [h]
theorem rowB_ext {f g : Row} {n : Nat} (h : ∀ k, k < n → f k = g k) : rowB f n = rowB g n := rowV_ext fun k hk => by rw [h k hk]
/-- behind one place of Match's row -/
def mQ (s : List UInt8) (f g : Row) (rest : List UInt8) (L : LoopA) (x : Pc) (k : Nat) : QA := fun e fr h => e = .normal ∧ fr 3 = .pointer (some ⟨0, 0, none⟩) ∧ fr 5 = .pointer (some ⟨3, 0, none⟩) ∧ fr 6 = .pointer (some ⟨4, 0, none⟩) ∧ fr 7 = .string (bs (strOf x)) ∧ fr 36 = .int .i64 (s.length : Nat) ∧ fr 37 = .int .i64 (k : Nat) ∧
  ∃ g', h = mH s f g' (s.length + 1) rest L ∧ g' (k + 1) = stepF s x f (k + 1) ∧ ∀ i, i ≤ k → g' i = g i
theorem u8_beq (c d : UInt8) (n : Nat) (hn : n = d.toNat) : (((c.toNat : Nat) : Int) == (n : Int)) = decide (c = d) := by
  subst hn
  rw [Bool.eq_iff_iff]
  simp only [beq_iff_eq, decide_eq_true_eq]
  constructor
  · intro h; exact UInt8.toNat_inj.1 (by omega)
  · rintro rfl; rfl
theorem u8_bne (c d : UInt8) (n : Nat) (hn : n = d.toNat) : (((c.toNat : Nat) : Int) != (n : Int)) = !decide (c = d) := by rw [bne, u8_beq c d n hn]
theorem mcopy (s : List UInt8) (f g : Row) (n : Nat) (rest : List UInt8) (L : LoopA) (hn : 0 < n) : copyA Try.prog 119 (.slice (some ⟨1, 0, none⟩) n n) (.slice (some ⟨2, 0, none⟩) n n) (mH s f g n rest L) = some (.int .i64 (n : Nat), mH s g g n rest L) := by
  have hn0 : n ≠ 0 := by omega
  have h1 : (rowB g n).take n = rowB g n := List.take_of_length_le (by simp)
  have h2 : spl (rowB f n) 0 (rowB g n) = rowB g n := spl_all _ _ (by simp)
  have h3 : ∀ x ∈ rowB g n, oneA x = true := by intro x hx; simp [rowB, rowV] at hx; obtain ⟨i, _, rfl⟩ := hx; rfl
  simp [copyA, srcA, mH, hn0, h1, h2]
  exact h3
set_option maxRecDepth 100000 in
set_option maxHeartbeats 4000000 in
theorem match_base (p s : List UInt8) (hs : s.length < 1000000000) : EvA Try.prog 76 [.string (bs p), .string (bs s)] (fun r _ => flat r = true ∧ r = .bool (M p s)) [] := by
  refine EvA.body Try.func76 rfl (by kernel_rfl) (by simp) ?_
  apply Run.ok
  simp
  refine after_call (check_ev p _) ?_
  rintro r h' ⟨rfl, rfl⟩
  by_cases c : chk p = 0
  · have w : IntKind.i64.wrap ((s.length : Int) + 1) = ((s.length + 1 : Nat) : Int) := by rw [wrap_i64 (by omega) (by omega)]; simp
    have hms : ∀ h : Hp, makeSliceA Try.prog 119 (.int .i64 ((s.length : Int) + 1)) (.int .i64 ((s.length : Int) + 1)) h = some (.slice (some ⟨h.length, 0, none⟩) (s.length + 1) (s.length + 1), h ++ [.cells (rowB (fun _ => false) (s.length + 1)) false none]) := by
      intro h
      rw [makeSlice_of (e := 4) (by simp) fc_infoT4 fc_zeroT4, if_pos ⟨by omega, by omega, by omega, rfl, by omega⟩, zeros_one]
      rfl
    have ia : ∀ (b j : Nat) (i : Int), i = (j : Nat) → j < s.length + 1 → indexAddrA Try.prog 119 (.slice (some ⟨b, 0, none⟩) (s.length + 1) (s.length + 1)) (.int .i64 i) = some (.pointer (some ⟨b, j, none⟩)) := by
      intro b j i hi hj
      rw [indexAddr_at (z := 1) (e := 4) (by simp) (by simp) hi hj]; simp
    have ia0 := fun b => ia b 0 0 rfl (by omega)
    have u42 : ∀ c : UInt8, (((c.toNat : Nat) : Int) == 42) = decide (c = 42) := fun c => u8_beq c 42 42 rfl
    have u47 : ∀ c : UInt8, (((c.toNat : Nat) : Int) != 47) = !decide (c = 47) := fun c => u8_bne c 47 47 rfl
    have ucd : ∀ c d : UInt8, (((c.toNat : Nat) : Int) == ((d.toNat : Nat) : Int)) = decide (c = d) := fun c d => u8_beq c d d.toNat rfl
    simp [c]
    refine WpA.drawnA [0, 1, 2, 3, 4, 5, 6, 7, 8, 9, 10, 11] [[], [], [], [], [], [], [], [], [], [], [0, 1, 2, 3, 8, 9], [0, 1, 2, 3, 4, 5, 6, 7, 8, 9, 10]] (by kernel_rfl) (by decide +kernel) (by decide +kernel) ?_
    simp [w, hms, ia0]
    refine after_call (pieces_ev p _) ?_
    rintro r h' ⟨rfl, rfl⟩
    simp
    refine WpA.rangeFunc (gf := 125) (first := #[]) (cap := #[.pointer (some ⟨5, 0, none⟩)]) (by simp) ?_
    intro L l1 l2 l3 l4 l5 l6 l7
    have bodyW : ∀ (x : Pc) (f g : Row) (rest : List UInt8) (fr : Fr) (Q : QA), wfp x → fr 3 = .pointer (some ⟨0, 0, none⟩) → fr 5 = .pointer (some ⟨3, 0, none⟩) → fr 6 = .pointer (some ⟨4, 0, none⟩) → fr 7 = .string (bs (strOf x)) →
        (∀ fr', Q .normal fr' (mH s (stepF s x f) (stepF s x f) (s.length + 1) rest (busyL L))) → WpA Try.prog Try.f76.ntmps L.body Q fr (mH s f g (s.length + 1) rest (busyL L)) := by
      intro x f g rest fr Q x6 f3 f5 f6 f7 hQ
      rw [l7]
      apply Run.ok
      simp [mH]
      obtain ⟨p0, z0⟩ := strOf_zero x
      have z1 := stepF_zero s x f x6 p0 z0
      refine WpA.mono (Q := fun e fr' h' => e = .normal ∧ fr' 3 = .pointer (some ⟨0, 0, none⟩) ∧ fr' 5 = .pointer (some ⟨3, 0, none⟩) ∧ fr' 6 = .pointer (some ⟨4, 0, none⟩) ∧ fr' 7 = .string (bs (strOf x)) ∧ ∃ g, h' = mH s f g (s.length + 1) rest (busyL L) ∧ g 0 = stepF s x f 0) ?_ ?_
      · refine WpA.drawnA [0, 1, 2, 3, 4, 5, 6, 7, 8, 9, 10] [[], [], [], [], [], [], [], [], [], [], [0, 1, 2, 3, 4, 5, 6, 7, 8, 9]] (by kernel_rfl) (by decide +kernel) (by decide +kernel) ?_
        cases hf0 : f 0
        all_goals
          rw [hf0] at z1
          simp [f3, f5, f6, f7, ia0, hf0, z0, u42]
          exact ⟨_, rfl, by simp [z1]⟩
      rintro e fr h' ⟨rfl, f3, f5, f6, f7, g, rfl, hg0⟩
      simp [mH, f3]
      refine WpA.loop (fun j fr h' => ∃ (k : Nat) (g : Row), j = s.length - k ∧ k ≤ s.length ∧ fr 3 = .pointer (some ⟨0, 0, none⟩) ∧ fr 5 = .pointer (some ⟨3, 0, none⟩) ∧ fr 6 = .pointer (some ⟨4, 0, none⟩) ∧ fr 7 = .string (bs (strOf x)) ∧
          fr 36 = .int .i64 (s.length : Nat) ∧ fr 37 = .int .i64 (k : Nat) ∧ h' = mH s f g (s.length + 1) rest (busyL L) ∧ ∀ i, i ≤ k → g i = stepF s x f i)
        (k := s.length) ⟨0, g, by simp, by omega, by simp [f3], by simp [f5], by simp [f6], by simp [f7], by simp, by simp, rfl, fun i hi => by rw [Nat.le_zero.1 hi]; exact hg0⟩ ?_
      rintro j fr h' ⟨k, g, rfl, hk, f3, f5, f6, f7, f36, f37, rfl, hg⟩
      apply Run.ok
      by_cases hlt : k < s.length
      · have hlt' : (k : Int) < s.length := by omega
        have w1 : IntKind.i64.wrap ((k : Int) + 1) = (k : Int) + 1 := wrap_i64 (by omega) (by omega)
        have iak := fun b => ia b k k rfl (by omega)
        have iak1 := fun b => ia b (k + 1) ((k : Int) + 1) (by simp) (by omega)
        have hkk : k < s.length + 1 := by omega
        have hk1 : k + 1 ≤ s.length := hlt
        obtain ⟨sk, hsk⟩ : ∃ sk, s[k]? = some sk := ⟨s[k], List.getElem?_eq_getElem hlt⟩
        have hsk' : s[k] = sk := by rw [List.getElem?_eq_getElem hlt] at hsk; simpa using hsk
        have hsd : s.getD k 0 = sk := by simp [List.getD_eq_getElem?_getD, hsk]
        have hgk := hg k (Nat.le_refl _)
        cases x with
        | two =>
          have f7' : fr 7 = .string (bs [42, 42]) := f7
          simp [f36, f37, f7', hlt']
          refine WpA.mono (Q := mQ s f g rest (busyL L) (.two) k) ?_ ?_
          · refine WpA.drawnA [0, 1, 2, 3, 4, 5, 6, 7, 8, 9, 10, 11, 12, 13, 14, 15] [[], [], [], [], [], [], [], [], [], [], [], [], [], [], [], [0, 1, 2, 3, 4, 5, 6, 7, 8, 9, 10, 11, 12, 13, 14]] (by kernel_rfl) (by decide +kernel) (by decide +kernel) ?_
            cases h1 : f (k + 1) <;> cases h2 : g k <;> have h3 : stepF s .two f k = g k := hgk.symm <;> rw [h2] at h3
            all_goals
              simp [f3, f5, f6, f7', f36, f37, mH, w1, iak, iak1, hkk, hlt, hk1, h1, h2, h3, hsk, hsk', u42, u47, ucd]
              exact ⟨rfl, by simp [f3], by simp [f5], by simp [f6], by simp [f7], by simp [f36], by simp [f37], _, rfl, by first | (simp [stepF, hsk, hsk', h1, h2, h3]; done) | (simp [stepF, hsk, hsk', h1, h2, h3, bne]; done) | (simp [stepF, hsk, hsk', h1, h2, h3, bne]; rw [Bool.eq_iff_iff]; simp), fun i hi => by simp [show ¬ i = k + 1 by omega]⟩
          · rintro e fr h ⟨rfl, f3, f5, f6, f7, f36, f37, g', rfl, hg1, hg2⟩
            simp [f37, w1]
            refine ⟨s.length - (k + 1), by omega, k + 1, rfl, by omega, f3, f5, f6, f7, f36, by simp, g', rfl, fun i hi => ?_⟩
            by_cases hik : i = k + 1
            · rw [hik, hg1]
            · rw [hg2 i (by omega), hg i (by omega)]
        | one =>
          have f7' : fr 7 = .string (bs [42]) := f7
          simp [f36, f37, f7', hlt']
          refine WpA.mono (Q := mQ s f g rest (busyL L) (.one) k) ?_ ?_
          · refine WpA.drawnA [0, 1, 2, 3, 4, 5, 6, 7, 8, 9, 10, 11, 12, 13, 14, 15, 16, 17, 18, 19, 20, 21] [[], [], [], [], [], [], [], [], [], [], [], [], [], [], [], [], [], [], [], [], [], [0, 1, 2, 3, 4, 5, 6, 7, 8, 9, 10, 11, 12, 13, 14, 15, 16, 17, 18, 19, 20]] (by kernel_rfl) (by decide +kernel) (by decide +kernel) ?_
            cases h1 : f (k + 1) <;> cases h2 : g k <;> have h3 : stepF s .one f k = g k := hgk.symm <;> rw [h2] at h3
            all_goals
              simp [f3, f5, f6, f7', f36, f37, mH, w1, iak, iak1, hkk, hlt, hk1, h1, h2, h3, hsk, hsk', u42, u47, ucd]
              exact ⟨rfl, by simp [f3], by simp [f5], by simp [f6], by simp [f7], by simp [f36], by simp [f37], _, rfl, by first | (simp [stepF, hsk, hsk', h1, h2, h3]; done) | (simp [stepF, hsk, hsk', h1, h2, h3, bne]; done) | (simp [stepF, hsk, hsk', h1, h2, h3, bne]; rw [Bool.eq_iff_iff]; simp), fun i hi => by simp [show ¬ i = k + 1 by omega]⟩
          · rintro e fr h ⟨rfl, f3, f5, f6, f7, f36, f37, g', rfl, hg1, hg2⟩
            simp [f37, w1]
            refine ⟨s.length - (k + 1), by omega, k + 1, rfl, by omega, f3, f5, f6, f7, f36, by simp, g', rfl, fun i hi => ?_⟩
            by_cases hik : i = k + 1
            · rw [hik, hg1]
            · rw [hg2 i (by omega), hg i (by omega)]
        | any =>
          have f7' : fr 7 = .string (bs [63]) := f7
          simp [f36, f37, f7', hlt']
          refine WpA.mono (Q := mQ s f g rest (busyL L) (.any) k) ?_ ?_
          · refine WpA.drawnA [0, 1, 2, 3, 4, 5, 6, 7, 8, 9, 10, 11, 12, 13, 14] [[], [], [], [], [], [], [], [], [], [], [], [], [], [], [0, 1, 2, 3, 4, 5, 6, 7, 8, 9, 10, 11, 12, 13]] (by kernel_rfl) (by decide +kernel) (by decide +kernel) ?_
            cases h1 : f k <;> have h2 := hlt <;> have h3 := hlt
            all_goals
              simp [f3, f5, f6, f7', f36, f37, mH, w1, iak, iak1, hkk, hlt, hk1, h1, h2, h3, hsk, hsk', u42, u47, ucd]
              exact ⟨rfl, by simp [f3], by simp [f5], by simp [f6], by simp [f7], by simp [f36], by simp [f37], _, rfl, by first | (simp [stepF, hsk, hsk', h1, h2, h3]; done) | (simp [stepF, hsk, hsk', h1, h2, h3, bne]; done) | (simp [stepF, hsk, hsk', h1, h2, h3, bne]; rw [Bool.eq_iff_iff]; simp), fun i hi => by simp [show ¬ i = k + 1 by omega]⟩
          · rintro e fr h ⟨rfl, f3, f5, f6, f7, f36, f37, g', rfl, hg1, hg2⟩
            simp [f37, w1]
            refine ⟨s.length - (k + 1), by omega, k + 1, rfl, by omega, f3, f5, f6, f7, f36, by simp, g', rfl, fun i hi => ?_⟩
            by_cases hik : i = k + 1
            · rw [hik, hg1]
            · rw [hg2 i (by omega), hg i (by omega)]
        | ch c =>
          have f7' : fr 7 = .string (bs [c]) := f7
          simp [f36, f37, f7', hlt', x6.1, x6.2]
          refine WpA.mono (Q := mQ s f g rest (busyL L) (.ch c) k) ?_ ?_
          · refine WpA.drawnA [0, 1, 2, 3, 4, 5, 6, 7, 8, 9, 10, 11, 12, 13, 14, 15, 16] [[], [], [], [], [], [], [], [], [], [], [], [], [], [], [], [], [0, 1, 2, 3, 4, 5, 6, 7, 8, 9, 10, 11, 12, 13, 14, 15]] (by kernel_rfl) (by decide +kernel) (by decide +kernel) ?_
            cases h1 : f k <;> have h2 := hlt <;> have h3 := hlt
            all_goals
              simp [f3, f5, f6, f7', f36, f37, mH, w1, iak, iak1, hkk, hlt, hk1, h1, h2, h3, hsk, hsk', u42, u47, ucd]
              exact ⟨rfl, by simp [f3], by simp [f5], by simp [f6], by simp [f7], by simp [f36], by simp [f37], _, rfl, by first | (simp [stepF, hsk, hsk', h1, h2, h3]; done) | (simp [stepF, hsk, hsk', h1, h2, h3, bne]; done) | (simp [stepF, hsk, hsk', h1, h2, h3, bne]; rw [Bool.eq_iff_iff]; simp), fun i hi => by simp [show ¬ i = k + 1 by omega]⟩
          · rintro e fr h ⟨rfl, f3, f5, f6, f7, f36, f37, g', rfl, hg1, hg2⟩
            simp [f37, w1]
            refine ⟨s.length - (k + 1), by omega, k + 1, rfl, by omega, f3, f5, f6, f7, f36, by simp, g', rfl, fun i hi => ?_⟩
            by_cases hik : i = k + 1
            · rw [hik, hg1]
            · rw [hg2 i (by omega), hg i (by omega)]
      · have hlt' : ¬ (k : Int) < s.length := by omega
        have hke : k = s.length := by omega
        subst hke
        have hcp := mcopy s f g (s.length + 1) rest (busyL L) (by omega)
        simp only [mH] at hcp
        simp [f36, f37, mH, f3, f5, f6, hcp]
        have hgg : rowB g (s.length + 1) = rowB (stepF s x f) (s.length + 1) := rowB_ext fun i hi => hg i (by omega)
        rw [hgg]
        exact hQ _
    simp
    refine EvA.body Try.func125 rfl (by kernel_rfl) (by simp) ?_
    apply Run.ok
    simp
    have hrow0 : (fun i => decide (i = 0) : Row) = row0 := by funext i; rw [Bool.eq_iff_iff]; simp [row0]
    refine WpA.loop (fun k fr h' => ∃ (rest : List UInt8) (f g : Row), k = rest.length ∧ fr 0 = .func (.yield 6) #[] #[] ∧ fr 1 = .pointer (some ⟨5, 0, none⟩) ∧ h' = mH s f g (s.length + 1) rest L ∧ fwd s (pcs rest) f s.length = mp (pcs p) s)
      (k := p.length) ⟨p, _, _, rfl, by simp, by simp, rfl, by rw [hrow0]; rfl⟩ ?_
    rintro k fr h' ⟨rest, f, g, rfl, f0, f1, rfl, hf⟩
    apply Run.ok
    by_cases hne : rest = []
    · subst hne
      simp only [pcs_nil, fwd, List.foldl_nil] at hf
      have ian := fun b => ia b s.length s.length rfl (by omega)
      have rg := rowB_get (f := f) (n := s.length + 1) (k := s.length) (by omega)
      simp [f0, f1, mH]
      refine ⟨L, by simp, by simp [l1], ?_⟩
      simp [l2, ian, rg, flat, ground, M, c, hf]
    · obtain ⟨x, rest', x1, x2, x3, x4, x5, x6⟩ : ∃ x rest', pcs rest = x :: pcs rest' ∧ rest = strOf x ++ rest' ∧ (decide (2 ≤ rest.length) && decide (rest.take 2 = [42, 42])) = decide ((strOf x).length = 2) ∧ ((strOf x).length = 1 ∨ (strOf x).length = 2) ∧ rest'.length < rest.length ∧ wfp x := by
        cases rest with
        | nil => exact absurd rfl hne
        | cons c0 tl => exact split_pc c0 tl
      rw [x1, fwd_cons] at hf
      have htk : rest.take (strOf x).length = strOf x := by rw [x2]; simp
      have hdr : rest.drop (strOf x).length = rest' := by rw [x2]; simp
      have hln : (strOf x).length ≤ rest.length := by rw [x2]; simp
      simp [f0, f1, mH, hne]
      refine after_call ((prefix_ev rest [42, 42] _).mono (Q' := fun r h' => r = .bool (decide ((strOf x).length = 2)) ∧ h' = _) fun r h' hq => ⟨hq.1.trans (by simpa using x3), hq.2⟩) ?_
      rintro r h' ⟨rfl, rfl⟩
      rcases x4 with x4 | x4
      all_goals
        rw [x4] at htk hdr hln
        have hln' : ((strOf x).length : Int) ≤ rest.length := by omega
        rw [x4] at hln'
        simp at hln'
        simp [x4, f0, f1, hln', bs_extract, htk]
        refine after_round ⟨L, by simp, by simp [l5], by rw [l6]; rfl, by rw [l7]; rfl, ?_⟩
        rw [l6, l3]
        apply Run.ok
        simp [putPs, l3, l4, l5]
        refine ⟨rfl, L, rfl, l1, ?_⟩
        refine bodyW x f g rest _ _ x6 (by simp) (by simp) (by simp) (by simp) (fun fr' => ?_)
        refine ⟨busyL L, rfl, ?_⟩
        rw [readyL_busyL l1 l2]
        simp [mH, f0, f1, hln', bs_extract, hdr]
        have hrl : rest'.length = rest.length - (strOf x).length := by rw [x2]; simp
        rw [x4] at hrl
        exact ⟨rest'.length, x5, rest', rfl, stepF s x f, ⟨rfl, ⟨_, rfl⟩, List.take_of_length_le (by omega)⟩, hf⟩
  · have c' : (chk p != 0) = true := by simpa using c
    simp [c, c', M, flat, ground]
theorem match_ev (p s : List UInt8) (h : Hp) (hs : s.length < 1000000000) : EvA Try.prog 76 [.string (bs p), .string (bs s)] (fun r h' => h' = h ∧ r = .bool (M p s)) h := EvA.base (h0 := []) (by simp [flat, ground]) (match_base p s hs)
end Go.Proofs.Ytbamofeocfbjbaa
