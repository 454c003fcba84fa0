/- Jobs of bytes, plainly: what is read, that both readings are one, and that what was read has these bytes; no condition. -/
import Derived.Test.YtklhioaokogpdaaPCould
import Derived.Test.YtklhioaokogpdaaRefB
namespace Go.Proofs.Ytklhioaokogpdaa
open Go.Ab
theorem num_pre {l : List UInt8} (h : (num l).2 ≠ 0) : ∃ r, l = enc (num l).1 ++ r ∧ (num l).2 = (enc (num l).1).length := by
  rcases num_cases l with ⟨u, hu, he⟩ | ⟨_, he⟩
  · obtain ⟨r, hr⟩ := hu.2
    rw [he]
    exact ⟨r, hr.symm, (enc_length u).symm⟩
  · rw [he] at h; exact absurd rfl h
theorem wth_num {l : List UInt8} {most : Int} (h : (wth l most).2 ≠ 0) : wth l most = num l ∧ (num l).1 ≤ 2147483647 ∧ ((num l).1 : Int) ≤ most := by
  unfold wth at h ⊢
  split
  · rename_i c; rw [if_pos c] at h; exact absurd rfl h
  · rename_i c; simp only [not_or] at c; exact ⟨rfl, by omega, by omega⟩
theorem cntO_some {most : Int} {o : Option (List UInt8)} {r : List UInt8} (h : (cntO most o).2 = some r) : o = some (enc (cntO most o).1 ++ r) := by
  cases o with
  | none => simp [cntO] at h
  | some l =>
    simp only [cntO] at h ⊢
    by_cases c : (wth l most).2 = 0
    · rw [if_pos c] at h; cases h
    · rw [if_neg c] at h ⊢
      simp only [Option.some.injEq] at h
      have hw := (wth_num c).1
      rw [hw] at h c ⊢
      obtain ⟨q, h1, h2⟩ := num_pre c
      simp only
      rw [← h, h2]
      rw [Option.some.injEq]
      conv => lhs; rw [h1]
      congr 1
      conv => rhs; rw [h1]
      rw [List.drop_left' (by rw [← h1])]
theorem cntO_none (most : Int) : cntO most none = (0, none) := rfl
theorem cntO_mono {m m' : Int} (hm : m ≤ m') {o : Option (List UInt8)} {r : List UInt8} (h : (cntO m o).2 = some r) : cntO m' o = cntO m o := by
  cases o with
  | none => cases h
  | some l =>
    simp only [cntO] at h ⊢
    by_cases c : (wth l m).2 = 0
    · rw [if_pos c] at h; cases h
    · obtain ⟨h1, h2, h3⟩ := wth_num c
      have : wth l m' = wth l m := by rw [h1]; unfold wth; rw [if_neg (by omega)]
      rw [this]
theorem cntO_back {m m' : Int} {o : Option (List UInt8)} {r : List UInt8} (h : (cntO m' o).2 = some r) (hv : ((cntO m' o).1 : Int) ≤ m) : cntO m o = cntO m' o := by
  cases o with
  | none => cases h
  | some l =>
    simp only [cntO] at h hv ⊢
    by_cases c : (wth l m').2 = 0
    · rw [if_pos c] at h; cases h
    · rw [if_neg c] at hv
      simp only at hv
      obtain ⟨h1, h2, h3⟩ := wth_num c
      rw [h1] at hv
      have : wth l m = wth l m' := by rw [h1]; unfold wth; rw [if_neg (by omega)]
      rw [this]
/-- a truth value taken off -/
def flagO : Option (List UInt8) → Bool × Option (List UInt8)
  | some (c :: r) => if c.toNat ≤ 1 then (c.toNat == 1, some r) else (false, none)
  | _ => (false, none)
theorem flagO_eq (o : Option (List UInt8)) : flagO o = ((cntO 1 o).1 == 1, (cntO 1 o).2) := by
  cases o with
  | none => rfl
  | some l =>
    cases l with
    | nil => simp [flagO, cntO, wth, num_nil]
    | cons c r =>
      by_cases hc : c.toNat < 128
      · have he : enc c.toNat = [c] := by rw [enc_small hc]; simp
        have hn := num_some (s := c :: r) (u := c.toNat) ⟨by omega, by rw [he]; simp⟩
        rw [grps_small _ hc] at hn
        by_cases h1 : c.toNat ≤ 1
        · have hw : wth (c :: r) 1 = (c.toNat, 1) := by unfold wth; rw [hn, if_neg (by omega)]
          simp only [flagO, cntO, hw, if_pos h1]
          simp
        · have hw : wth (c :: r) 1 = (0, 0) := by unfold wth; rw [hn, if_pos (by omega)]
          simp only [flagO, cntO, hw, if_neg h1]
          simp
      · have hw : wth (c :: r) 1 = (0, 0) := by
          rcases num_cases (c :: r) with ⟨u, hu, he⟩ | ⟨_, he⟩
          · have hbig : 128 ≤ u := by
              rcases Nat.lt_or_ge u 128 with h | h
              · have h2 := hu.2
                rw [enc_small h] at h2
                simp at h2
                rw [← h2] at hc
                simp at hc; omega
              · exact h
            unfold wth; rw [he, if_pos (by omega)]
          · unfold wth; rw [he]; split <;> rfl
        have h1 : ¬ c.toNat ≤ 1 := by omega
        simp only [flagO, cntO, hw, if_neg h1]
        simp
/-- n statuses, read one by one -/
noncomputable def readJ (m1 m2 : Int) : Nat → Option (List UInt8) → Option (List UInt8) × List St
  | 0, o => (o, [])
  | n + 1, o => ((readJ m1 m2 n (cntO 1 (cntO 999 (cntO 2147483647 (cntO 2147483647 (cntO m2 (cntO m1 o).2).2).2).2).2).2).1,
      ⟨(cntO m1 o).1, (cntO m2 (cntO m1 o).2).1, (cntO 2147483647 (cntO m2 (cntO m1 o).2).2).1, (cntO 2147483647 (cntO 2147483647 (cntO m2 (cntO m1 o).2).2).2).1,
        (cntO 999 (cntO 2147483647 (cntO 2147483647 (cntO m2 (cntO m1 o).2).2).2).2).1, (cntO 1 (cntO 999 (cntO 2147483647 (cntO 2147483647 (cntO m2 (cntO m1 o).2).2).2).2).2).1 == 1⟩ ::
      (readJ m1 m2 n (cntO 1 (cntO 999 (cntO 2147483647 (cntO 2147483647 (cntO m2 (cntO m1 o).2).2).2).2).2).2).2)
theorem readJ_len (m1 m2 : Int) : ∀ n o, (readJ m1 m2 n o).2.length = n := by
  intro n
  induction n with
  | zero => intro o; rfl
  | succ n ih => intro o; simp only [readJ, List.length_cons, ih]
theorem readJ_none (m1 m2 : Int) : ∀ n, (readJ m1 m2 n none).1 = none := by
  intro n
  induction n with
  | zero => rfl
  | succ n ih => simp only [readJ, cntO_none, ih]
theorem cnt_live {m : Int} {o : Option (List UInt8)} : (cntO m o).2 = none ∨ ∃ r, (cntO m o).2 = some r := by
  cases h : (cntO m o).2 with
  | none => exact .inl rfl
  | some r => exact .inr ⟨r, rfl⟩
/-- the chain of what is left, where the last is left -/
theorem chain {m1 m2 : Int} {o : Option (List UInt8)} {q : List UInt8} (h : (cntO 1 (cntO 999 (cntO 2147483647 (cntO 2147483647 (cntO m2 (cntO m1 o).2).2).2).2).2).2 = some q) :
    ∃ a b c d e, (cntO m1 o).2 = some a ∧ (cntO m2 (some a)).2 = some b ∧ (cntO 2147483647 (some b)).2 = some c ∧ (cntO 2147483647 (some c)).2 = some d ∧ (cntO 999 (some d)).2 = some e ∧ (cntO 1 (some e)).2 = some q := by
  have g1 := cntO_some h
  have g2 := cntO_some g1
  have g3 := cntO_some g2
  have g4 := cntO_some g3
  have g5 := cntO_some g4
  rw [g5] at g4 g3 g2 g1 h
  rw [g4] at g3 g2 g1 h
  rw [g3] at g2 g1 h
  rw [g2] at g1 h
  rw [g1] at h
  exact ⟨_, _, _, _, _, g5, g4, g3, g2, g1, h⟩
theorem readJ_mono : ∀ n o r L, readJ 11 5 n o = (some r, L) → readJ 255 2147483647 n o = (some r, L) := by
  intro n
  induction n with
  | zero => intro o r L h; exact h
  | succ n ih =>
    intro o r L h
    simp only [readJ, Prod.mk.injEq] at h
    obtain ⟨h1, h2⟩ := h
    rcases cnt_live (m := 1) (o := (cntO 999 (cntO 2147483647 (cntO 2147483647 (cntO 5 (cntO 11 o).2).2).2).2).2) with hq | ⟨q, hq⟩
    · rw [hq, readJ_none] at h1; cases h1
    · obtain ⟨a, b, c, d, e, e1, e2, e3, e4, e5, e6⟩ := chain hq
      have i1 := cntO_mono (m' := 255) (by omega) e1
      have i2 := cntO_mono (m' := 2147483647) (by omega) e2
      simp only [readJ, i1, e1, i2]
      rw [e1] at h1 h2
      have := ih _ _ _ (Prod.ext h1 rfl)
      rw [this]
      rw [← h2]
theorem readJ_back : ∀ n o r L, readJ 255 2147483647 n o = (some r, L) → (∀ x ∈ L, x.s ≤ 11 ∧ x.tried ≤ 5) → readJ 11 5 n o = (some r, L) := by
  intro n
  induction n with
  | zero => intro o r L h _; exact h
  | succ n ih =>
    intro o r L h hL
    simp only [readJ, Prod.mk.injEq] at h
    obtain ⟨h1, h2⟩ := h
    rcases cnt_live (m := 1) (o := (cntO 999 (cntO 2147483647 (cntO 2147483647 (cntO 2147483647 (cntO 255 o).2).2).2).2).2) with hq | ⟨q, hq⟩
    · rw [hq, readJ_none] at h1; cases h1
    · obtain ⟨a, b, c, d, e, e1, e2, e3, e4, e5, e6⟩ := chain hq
      rw [e1] at h1 h2
      have hx := hL _ (by rw [← h2]; exact List.mem_cons_self ..)
      simp only at hx
      have i1 := cntO_back (m := 11) e1 (by omega)
      have i2 := cntO_back (m := 5) e2 (by omega)
      simp only [readJ, i1, e1, i2]
      have := ih _ _ _ (Prod.ext h1 rfl) (fun x hx => hL x (by rw [← h2]; exact List.mem_cons_of_mem _ hx))
      rw [this]
      rw [← h2]
/-- a status's bytes -/
def stB (x : St) : List UInt8 := enc x.s ++ enc x.tried.toNat ++ enc x.badge.toNat ++ enc x.since.toNat ++ enc x.code.toNat ++ [if x.played then 1 else 0]
theorem flag_enc {o : Option (List UInt8)} {q : List UInt8} (h : (cntO 1 o).2 = some q) : enc (cntO 1 o).1 = [if (cntO 1 o).1 == 1 then 1 else 0] := by
  have := (cntO_le 1 o).2 (by omega)
  have h2 : (cntO 1 o).1 = 0 ∨ (cntO 1 o).1 = 1 := by omega
  rcases h2 with h2 | h2 <;> rw [h2, enc_small (by omega)] <;> rfl
theorem readJ_bytes (m1 m2 : Int) : ∀ n o r L, readJ m1 m2 n o = (some r, L) → o = some (L.flatMap stB ++ r) := by
  intro n
  induction n with
  | zero =>
    intro o r L h
    simp only [readJ, Prod.mk.injEq] at h
    obtain ⟨rfl, rfl⟩ := h
    rfl
  | succ n ih =>
    intro o r L h
    simp only [readJ, Prod.mk.injEq] at h
    obtain ⟨h1, h2⟩ := h
    rcases cnt_live (m := 1) (o := (cntO 999 (cntO 2147483647 (cntO 2147483647 (cntO m2 (cntO m1 o).2).2).2).2).2) with hq | ⟨q, hq⟩
    · rw [hq, readJ_none] at h1; cases h1
    · have h0 := ih _ _ _ (Prod.ext h1 rfl)
      obtain ⟨a, b, c, d, e, e1, e2, e3, e4, e5, e6⟩ := chain hq
      have f1 := cntO_some e1
      have f2 := cntO_some e2
      have f3 := cntO_some e3
      have f4 := cntO_some e4
      have f5 := cntO_some e5
      have f6 := cntO_some e6
      rw [flag_enc e6] at f6
      rw [hq] at h0
      simp only [Option.some.injEq] at h0 f2 f3 f4 f5 f6
      rw [e1, e2, e3, e4, e5] at h2
      rw [f1, ← h2, List.flatMap_cons]
      simp only [e6]
      simp only [stB, Int.toNat_natCast]
      clear h1 h2 ih hq f1 e1
      generalize (cntO m1 o).1 = u1
      generalize (cntO m2 (some a)).1 = u2 at f2 ⊢
      generalize (cntO 2147483647 (some b)).1 = u3 at f3 ⊢
      generalize (cntO 2147483647 (some c)).1 = u4 at f4 ⊢
      generalize (cntO 999 (some d)).1 = u5 at f5 ⊢
      generalize (cntO 1 (some e)).1 = u6 at f6 ⊢
      rw [Option.some.injEq, f2, f3, f4, f5, f6]
      simp only [List.append_assoc]
      rw [← h0]
theorem couldP_small {y : Jb} {l : List St} {x : St} (h : couldP y l x = true) : x.s ≤ 11 ∧ x.tried ≤ y.tries := by
  unfold couldP at h
  split at h
  · cases h
  · rename_i c
    simp only [not_or] at c
    refine ⟨?_, by omega⟩
    rcases Nat.lt_or_ge 11 x.s with hs | hs
    · exfalso
      rw [if_neg (by omega), if_neg (by omega), if_neg (by omega), if_neg (by omega), if_neg (by omega), if_neg (by omega), if_neg (by omega)] at h
      cases h
    · exact hs
/-- jobs of bytes -/
def IsJs (js : List Jb) (b : List UInt8) (L : List St) : Prop := readJ 255 2147483647 js.length (some b) = (some [], L) ∧ ∀ i, i < js.length → couldP (js.getD i Jb.no) L (L.getD i St.no) = true
theorem IsJs.bytes {js : List Jb} {b : List UInt8} {L : List St} (h : IsJs js b L) : L.flatMap stB = b := by
  have := readJ_bytes _ _ _ _ _ _ h.1
  simp only [Option.some.injEq, List.append_nil] at this
  exact this.symm
theorem IsJs.len {js : List Jb} {b : List UInt8} {L : List St} (h : IsJs js b L) : L.length = js.length := by
  have := readJ_len 255 2147483647 js.length (some b)
  rw [h.1] at this
  exact this
theorem IsJs.eq {js : List Jb} {b : List UInt8} {L L' : List St} (h : IsJs js b L) (h' : IsJs js b L') : L = L' := by
  have := h.1.symm.trans h'.1
  simp only [Prod.mk.injEq, true_and] at this
  exact this
/-- the program's reading is the document's -/
theorem isJs_iff {js : List Jb} (ht : ∀ k, k < js.length → (js.getD k Jb.no).tries ≤ 5) (b : List UInt8) (L : List St) :
    (readJ 11 5 js.length (some b) = (some [], L) ∧ ∀ i, i < js.length → couldP (js.getD i Jb.no) L (L.getD i St.no) = true) ↔ IsJs js b L := by
  constructor
  · rintro ⟨h1, h2⟩
    exact ⟨readJ_mono _ _ _ _ h1, h2⟩
  · rintro ⟨h1, h2⟩
    refine ⟨readJ_back _ _ _ _ h1 fun x hx => ?_, h2⟩
    have hl : L.length = js.length := IsJs.len ⟨h1, h2⟩
    obtain ⟨i, hi, rfl⟩ := List.mem_iff_getElem.1 hx
    have := couldP_small (h2 i (by omega))
    rw [← getD_at L St.no hi] at this
    have := ht i (by omega)
    omega
end Go.Proofs.Ytklhioaokogpdaa
