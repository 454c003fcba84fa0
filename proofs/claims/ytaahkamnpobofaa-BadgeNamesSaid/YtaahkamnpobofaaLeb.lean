/- Numbers in groups of seven bits: what bytes they have, and that bytes have one number at most; no condition. -/
import Derived.Test.YtaahkamnpobofaaLen
namespace Go.Proofs.Ytaahkamnpobofaa
open Go.Ab

theorem grps_div (u : Nat) (hu : 128 ≤ u) : grps u = grps (u / 128) + 1 := by
  have h1 := len64_div u 7 hu
  have h2 : u / 2 ^ 7 ≠ 0 := by omega
  have h3 : 1 ≤ len64 (u / 2 ^ 7) := by unfold len64; rw [if_neg h2]; omega
  simp only [grps]
  have h4 : (2 : Nat) ^ 7 = 128 := rfl
  rw [h4] at h1 h3
  omega
theorem grps_small (u : Nat) (hu : u < 128) : grps u = 1 := by
  have h : len64 u ≤ 7 := by
    unfold len64; split
    · omega
    · have := (Nat.log2_lt (k := 7) (n := u) (by assumption)).2 (by omega); omega
  simp only [grps]; omega
def enc (u : Nat) : List UInt8 := if u < 128 then [UInt8.ofNat u] else UInt8.ofNat (128 + u % 128) :: enc (u / 128)
termination_by u
decreasing_by omega
theorem enc_small {u : Nat} (hu : u < 128) : enc u = [UInt8.ofNat u] := by rw [enc, if_pos hu]
theorem enc_big {u : Nat} (hu : 128 ≤ u) : enc u = UInt8.ofNat (128 + u % 128) :: enc (u / 128) := by rw [enc, if_neg (by omega)]
theorem enc_length (u : Nat) : (enc u).length = grps u := by
  induction u using Nat.strongRecOn with
  | ind u ih =>
    by_cases hu : u < 128
    · rw [enc_small hu, grps_small u hu]; rfl
    · rw [enc_big (by omega), grps_div u (by omega), List.length_cons, ih (u / 128) (by omega)]
theorem grps_pos (u : Nat) : 1 ≤ grps u := by simp only [grps]; omega
theorem grps_le (u : Nat) (hu : u < 18446744073709551616) : grps u ≤ 10 := by
  have := len64_le u hu
  simp only [grps]; omega
/-- digits of seven bits, the lowest first -/
def val : List UInt8 → Nat
  | [] => 0
  | b :: l => b.toNat % 128 + 128 * val l
theorem val_enc (u : Nat) : val (enc u) = u := by
  induction u using Nat.strongRecOn with
  | ind u ih =>
    by_cases hu : u < 128
    · rw [enc_small hu]; simp [val]; omega
    · rw [enc_big (by omega)]; simp only [val]; rw [ih (u / 128) (by omega)]; simp; omega
theorem enc_inj {u v : Nat} (h : enc u = enc v) : u = v := by rw [← val_enc u, h, val_enc]
/-- groups: all but the last say that one follows -/
def Grp : List UInt8 → Prop
  | [] => False
  | [b] => b.toNat < 128
  | b :: c :: l => 128 ≤ b.toNat ∧ Grp (c :: l)
theorem Grp.cons {b : UInt8} {l : List UInt8} (hb : 128 ≤ b.toNat) (hl : Grp l) : Grp (b :: l) := by
  cases l with
  | nil => exact hl.elim
  | cons c l => exact ⟨hb, hl⟩
theorem enc_grp (u : Nat) : Grp (enc u) := by
  induction u using Nat.strongRecOn with
  | ind u ih =>
    by_cases hu : u < 128
    · rw [enc_small hu]; simp [Grp]; omega
    · rw [enc_big (by omega)]
      exact Grp.cons (by simp; omega) (ih (u / 128) (by omega))
theorem val_grp : ∀ (l : List UInt8), Grp l → grps (val l) = l.length → enc (val l) = l := by
  intro l
  induction l with
  | nil => intro h; exact h.elim
  | cons b l ih =>
    intro hg hl
    cases l with
    | nil =>
      simp only [Grp] at hg
      have : val [b] = b.toNat := by simp [val]; omega
      rw [this, enc_small hg]; simp
    | cons c l =>
      obtain ⟨hb, hg⟩ := hg
      have hbig : 128 ≤ val (b :: c :: l) := by
        rcases Nat.lt_or_ge (val (b :: c :: l)) 128 with h | h
        · rw [grps_small _ h] at hl; simp at hl
        · exact h
      rw [grps_div _ hbig] at hl
      have hd : val (b :: c :: l) / 128 = val (c :: l) := by
        show (b.toNat % 128 + 128 * val (c :: l)) / 128 = _
        omega
      have hm : val (b :: c :: l) % 128 = b.toNat % 128 := by
        show (b.toNat % 128 + 128 * val (c :: l)) % 128 = _
        omega
      have hlt := b.toNat_lt
      rw [enc_big hbig, hm, hd, ih hg (by rw [hd] at hl; simpa using hl)]
      congr 1
      apply UInt8.toNat_inj.1
      simp; omega
/-- two beginnings of a text that are groups are one -/
theorem Grp.unique : ∀ (l m s : List UInt8), Grp l → Grp m → l <+: s → m <+: s → l = m := by
  intro l
  induction l with
  | nil => intro m s h; exact h.elim
  | cons b l ih =>
    intro m s hl hm h1 h2
    cases m with
    | nil => exact hm.elim
    | cons c m =>
      cases s with
      | nil => simp at h1
      | cons x s =>
        rw [List.cons_prefix_cons] at h1 h2
        obtain ⟨rfl, h1⟩ := h1
        obtain ⟨rfl, h2⟩ := h2
        cases l with
        | nil =>
          cases m with
          | nil => rfl
          | cons d m => have h3 : c.toNat < 128 := hl; have h4 : 128 ≤ c.toNat := hm.1; omega
        | cons d l =>
          cases m with
          | nil => have h3 : c.toNat < 128 := hm; have h4 : 128 ≤ c.toNat := hl.1; omega
          | cons e m => rw [ih _ s hl.2 hm.2 h1 h2]
/-- u stands at the beginning of s -/
def IsNum (s : List UInt8) (u : Nat) : Prop := u < 18446744073709551616 ∧ enc u <+: s
theorem IsNum.unique {s : List UInt8} {u v : Nat} (hu : IsNum s u) (hv : IsNum s v) : u = v :=
  enc_inj (Grp.unique _ _ s (enc_grp u) (enc_grp v) hu.2 hv.2)
open Classical in
/-- the number that stands there, and how many bytes it has -/
noncomputable def num (s : List UInt8) : Nat × Nat := if h : ∃ u, IsNum s u then (h.choose, grps h.choose) else (0, 0)
theorem num_some {s : List UInt8} {u : Nat} (hu : IsNum s u) : num s = (u, grps u) := by
  have h : ∃ u, IsNum s u := ⟨u, hu⟩
  have := IsNum.unique h.choose_spec hu
  simp only [num, dif_pos h, this]
theorem num_none {s : List UInt8} (hn : ∀ u, ¬ IsNum s u) : num s = (0, 0) := by
  simp only [num]
  rw [dif_neg (by rintro ⟨u, hu⟩; exact hn u hu)]
theorem num_cases (s : List UInt8) : (∃ u, IsNum s u ∧ num s = (u, grps u)) ∨ ((∀ u, ¬ IsNum s u) ∧ num s = (0, 0)) := by
  by_cases h : ∃ u, IsNum s u
  · obtain ⟨u, hu⟩ := h; exact .inl ⟨u, hu, num_some hu⟩
  · exact .inr ⟨fun u hu => h ⟨u, hu⟩, num_none fun u hu => h ⟨u, hu⟩⟩
/-- groups at the beginning of a text, by where the first byte stands that says that none follows -/
theorem Grp.of : ∀ (n : Nat) (s : List UInt8), n < s.length → (∀ j, j < n → 128 ≤ (s.getD j 0).toNat) → (s.getD n 0).toNat < 128 → Grp (s.take (n + 1)) := by
  intro n
  induction n with
  | zero =>
    intro s hl _ hb
    cases s with
    | nil => simp at hl
    | cons b s => simpa [Grp] using hb
  | succ n ih =>
    intro s hl ha hb
    cases s with
    | nil => simp at hl
    | cons b s =>
      rw [List.take_succ_cons]
      exact Grp.cons (by simpa using ha 0 (by omega)) (ih s (by simpa using hl) (fun j hj => by simpa using ha (j + 1) (by omega)) (by simpa using hb))
theorem Grp.at : ∀ (l s : List UInt8), Grp l → l <+: s → l.length ≤ s.length ∧ (∀ j, j + 1 < l.length → 128 ≤ (s.getD j 0).toNat) ∧ (s.getD (l.length - 1) 0).toNat < 128 := by
  intro l
  induction l with
  | nil => intro s h; exact h.elim
  | cons b l ih =>
    intro s hg hp
    cases s with
    | nil => simp at hp
    | cons c s =>
      rw [List.cons_prefix_cons] at hp
      obtain ⟨rfl, hp⟩ := hp
      cases l with
      | nil => have hg' : b.toNat < 128 := hg; exact ⟨by simp, by simp, by simpa using hg'⟩
      | cons d l =>
        obtain ⟨h1, h2, h3⟩ := ih s hg.2 hp
        refine ⟨by simp at h1 ⊢; omega, ?_, by simpa using h3⟩
        intro j hj
        cases j with
        | zero => simpa using hg.1
        | succ j => simpa using h2 j (by simp at hj ⊢; omega)
theorem val_lt : ∀ (l : List UInt8), val l < 128 ^ l.length := by
  intro l
  induction l with
  | nil => simp [val]
  | cons b l ih =>
    simp only [val, List.length_cons, Nat.pow_succ]
    have := Nat.mod_lt b.toNat (show 128 > 0 by decide)
    omega
theorem Grp.length {l : List UInt8} (h : Grp l) : 0 < l.length := by cases l with | nil => exact h.elim | cons b l => simp
theorem enc_length_val (u : Nat) (hu : u < 18446744073709551616) (hl : (enc u).length = 10) : ((enc u).getD 9 0).toNat ≤ 1 := by
  have h1 := val_enc u
  have h2 : enc u = (enc u).take 9 ++ [(enc u).getD 9 0] := by
    have := List.take_append_drop 9 (enc u)
    have h3 : (enc u).drop 9 = [(enc u).getD 9 0] := by
      rw [List.drop_eq_getElem_cons (by omega), List.drop_of_length_le (by omega)]
      simp [List.getD_eq_getElem?_getD, hl]
    rw [h3] at this; exact this.symm
  have hv : ∀ (l m : List UInt8), val (l ++ m) = val l + 128 ^ l.length * val m := by
    intro l m
    induction l with
    | nil => simp [val]
    | cons b l ih => simp only [List.cons_append, val, ih, List.length_cons, Nat.pow_succ, Nat.mul_add]; rw [← Nat.mul_assoc, Nat.mul_comm 128 (128 ^ l.length)]; omega
  rw [h2, hv, List.length_take, hl] at h1
  simp only [val] at h1
  have h5 := (Grp.at (enc u) (enc u) (enc_grp u) (List.prefix_refl _)).2.2
  rw [hl] at h5
  have h6 : (10 - 1 : Nat) = 9 := rfl
  rw [h6] at h5
  have h7 : (128 : Nat) ^ min 9 10 = 9223372036854775808 := rfl
  rw [h7, Nat.mod_eq_of_lt h5] at h1
  omega
/-- bytes that tell no number -/
theorem num_long {s : List UInt8} {n : Nat} (hn : n ≤ 10) (ha : ∀ j, j < n → 128 ≤ (s.getD j 0).toNat) (he : s.length ≤ n ∨ n = 10) : ∀ u, ¬ IsNum s u := by
  rintro u ⟨hu, hp⟩
  obtain ⟨h1, h2, h3⟩ := Grp.at _ s (enc_grp u) hp
  have h4 := Grp.length (enc_grp u)
  have h5 := grps_le u hu
  rw [← enc_length] at h5
  have := ha ((enc u).length - 1) (by omega)
  omega
theorem num_at {s : List UInt8} {n : Nat} (hn : n < 10) (hl : n < s.length) (ha : ∀ j, j < n → 128 ≤ (s.getD j 0).toNat) (hb : (s.getD n 0).toNat < 128) {u : Nat} (hu : IsNum s u) : enc u = s.take (n + 1) :=
  Grp.unique _ _ s (enc_grp u) (Grp.of n s hl ha hb) hu.2 (List.take_prefix _ _)
theorem num_top {s : List UInt8} (hl : 9 < s.length) (ha : ∀ j, j < 9 → 128 ≤ (s.getD j 0).toNat) (hb : (s.getD 9 0).toNat < 128) (h1 : 1 < (s.getD 9 0).toNat) : ∀ u, ¬ IsNum s u := by
  intro u hu
  have h2 := num_at (by omega) hl ha hb hu
  have h3 := enc_length_val u hu.1 (by rw [h2]; simp; omega)
  rw [h2] at h3
  simp only [List.getD_eq_getElem?_getD, List.getElem?_take] at h3 h1
  simp at h3
  omega
/-- groups that are a number's -/
theorem num_is {s : List UInt8} {n : Nat} (hn : n < 10) (hl : n < s.length) (ha : ∀ j, j < n → 128 ≤ (s.getD j 0).toNat) (hb : (s.getD n 0).toNat < 128) (h64 : val (s.take (n + 1)) < 18446744073709551616) :
    num s = if grps (val (s.take (n + 1))) = n + 1 then (val (s.take (n + 1)), n + 1) else (0, 0) := by
  have hg := Grp.of n s hl ha hb
  split
  · rename_i h
    have he := val_grp _ hg (by rw [h]; simp; omega)
    rw [num_some (u := val (s.take (n + 1))) ⟨h64, by rw [he]; exact List.take_prefix _ _⟩, h]
  · rename_i h
    refine num_none fun u hu => h ?_
    have h2 := num_at hn hl ha hb hu
    rw [← h2, val_enc, ← enc_length, h2]
    simp; omega
end Go.Proofs.Ytaahkamnpobofaa
