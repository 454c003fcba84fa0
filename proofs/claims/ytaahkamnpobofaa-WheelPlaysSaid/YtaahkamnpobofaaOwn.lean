/- Rows of the call's own that grow, are cut, and are written: one word for all; no condition. -/
import Derived.Test.YtaahkamnpobofaaAb32
namespace Go.Ab
section
variable {P : Program} {h h' : Hp} {n z k : Nat} {S : Nat → Prop}
def Ow (k : Nat) (h : Hp) (z : Nat) (v : Value) (n : Nat) (xs : List Value) : Prop :=
  xs.length = n * z ∧ ((v = .slice none 0 0 ∧ n = 0) ∨ (∃ b, v = .slice (some ⟨b, 0, none⟩) 0 0 ∧ n = 0 ∧ k ≤ b ∧ b < h.length) ∨
    ∃ b c rest op, v = .slice (some ⟨b, 0, none⟩) n c ∧ k ≤ b ∧ h[b]? = some (.cells (xs ++ rest) false op) ∧ ((n ≤ c ∧ c < capO ∧ (xs ++ rest).length = c * z) ∨ (capO + n ≤ c ∧ op = some z)))
theorem Acc.ow {v : Value} {xs : List Value} (ha : Acc k h z v n xs) : Ow k h z v n xs := by
  obtain ⟨hl, h1 | ⟨b, e1, e2, hk, hb⟩ | ⟨b, rfl, hk, hB⟩ | ⟨b, c, rest, op, rfl, hn, hc, hk, hB, hr⟩⟩ := ha
  · exact ⟨hl, .inl h1⟩
  · exact ⟨hl, .inr (.inl ⟨b, e1, e2, hk, hb⟩)⟩
  · exact ⟨hl, .inr (.inr ⟨b, _, [], some z, rfl, hk, by simpa using hB, .inr ⟨Nat.le_refl _, rfl⟩⟩)⟩
  · exact ⟨hl, .inr (.inr ⟨b, c, rest, op, rfl, hk, hB, .inl ⟨hn, hc, hr⟩⟩)⟩
theorem Ow.nil (k : Nat) : Ow k h z (.slice none 0 0) 0 [] := (Acc.nil k).ow
theorem Ow.wr {v : Value} {xs : List Value} (ha : Ow k h z v n xs) : Wr k h z v n xs := by
  obtain ⟨hl, h1 | ⟨b, rfl, rfl, hk, hb⟩ | ⟨b, c, rest, op, rfl, hk, hB, hc⟩⟩ := ha
  · exact ⟨hl, .inl h1⟩
  · exact ⟨hl, .inr (.inl ⟨b, 0, rfl, by simp [capO], rfl⟩)⟩
  · refine ⟨hl, .inr (.inr ⟨b, c, rest, op, rfl, hk, hB, ?_⟩)⟩
    rcases hc with ⟨h1, h2, _⟩ | h1
    · exact .inl ⟨h1, h2⟩
    · exact .inr h1
theorem Ow.row {v : Value} {xs : List Value} (ha : Ow k h z v n xs) : Row h z v n xs := ha.wr.row
theorem Ow.upd {v : Value} {xs : List Value} (ha : Ow k h z v n xs) (u : Upd S h h') (hn : ∀ k, inRow v k → ¬ S k) : Ow k h' z v n xs := by
  obtain ⟨hl, h1 | ⟨b, rfl, rfl, hk, hb⟩ | ⟨b, c, rest, op, rfl, hk, hB, hc⟩⟩ := ha
  · exact ⟨hl, .inl h1⟩
  · exact ⟨hl, .inr (.inl ⟨b, rfl, rfl, hk, Nat.lt_of_lt_of_le hb u.1⟩)⟩
  · exact ⟨hl, .inr (.inr ⟨b, c, rest, op, rfl, hk, u.at hB (hn b ⟨_, _, _, rfl, rfl⟩), hc⟩)⟩
theorem Ow.same {v : Value} {xs : List Value} (ha : Ow k h z v n xs) (u : Same h h') : Ow k h' z v n xs := ha.upd u (fun _ _ h => h)
theorem Ow.above {v : Value} {xs : List Value} (ha : Ow k h z v n xs) (j : Nat) (hj : inRow v j) : k ≤ j ∧ j < h.length := by
  obtain ⟨a, m, c, rfl, rfl⟩ := hj
  obtain ⟨hl, ⟨he, _⟩ | ⟨b, he, rfl, hk, hb⟩ | ⟨b, c, rest, op, he, hk, hB, hc⟩⟩ := ha
  · cases he
  · cases he; exact ⟨hk, hb⟩
  · cases he; exact ⟨hk, hp_lt hB⟩
theorem Ow.put {v : Value} {xs : List Value} (ha : Ow k h z v n xs) (h0 : 0 < n) : ∃ c rest op, v = .slice (some ⟨rbl v, 0, none⟩) n c ∧ h[rbl v]? = some (.cells (xs ++ rest) false op) ∧ xs.length = n * z ∧
    ∀ xs', xs'.length = xs.length → Ow k (h.set (rbl v) (.cells (xs' ++ rest) false op)) z v n xs' := by
  obtain ⟨hl, ⟨rfl, rfl⟩ | ⟨b, rfl, rfl, hk, hb⟩ | ⟨b, c, rest, op, rfl, hk, hB, hc⟩⟩ := ha
  · omega
  · omega
  · have hlt := hp_lt hB
    refine ⟨c, rest, op, rfl, by simpa [rbl] using hB, hl, fun xs' hx => ⟨by omega, .inr (.inr ⟨b, c, rest, op, rfl, hk, by simp [rbl, hlt], ?_⟩)⟩⟩
    rcases hc with ⟨h1, h2, h3⟩ | h1
    · exact .inl ⟨h1, h2, by simp at h3 ⊢; omega⟩
    · exact .inr h1
theorem Ow.storea {e : TypeId} {v : Value} {ys : List Value} {xs : List Value} {i : Nat} (ha : Ow k h z v n xs) (hs : sizeT P e = some z) (hy : ys.length = z) (hx : ys.all oneA = true) (hi : i < n) :
    ∃ h', storeA P e (.pointer (some ⟨rbl v, rof v + i * z, none⟩)) (.agg ys.toArray) h = some h' ∧ Ow k h' z v n (xs.take (i * z) ++ ys ++ xs.drop (i * z + z)) ∧ Upd (· = rbl v) h h' ∧ h'.length = h.length := by
  obtain ⟨c, rest, op, hv, hB, hl, hput⟩ := ha.put (by omega)
  have : (i + 1) * z ≤ n * z := Nat.mul_le_mul_right z hi
  rw [Nat.add_mul] at this
  have hsp := spl_mid ys xs rest (i * z) (by omega)
  rw [hy] at hsp
  refine ⟨_, ?_, hput _ (by simp; omega), Upd.set (S := (· = rbl v)) rfl _, by simp⟩
  rw [rof_zero hv]
  simp only [storeA, hB, cellsOf, hs, Nat.zero_add]
  rw [if_pos ⟨by simp [hy], by simp; omega, by simpa using hx⟩, hsp]
/-- the beginning -/
theorem Ow.hi {t e : TypeId} {v : Value} {xs : List Value} {q : IntKind} {m : Nat} (ha : Ow k h z v n xs) (ht : P.underlying t = some (.slice e)) (he : sizeT P e = some z) (hm : m ≤ n) :
    ∃ v', sliceA P t v none (some (.int q (m : Int))) none h = some v' ∧ Ow k h z v' m (xs.take (m * z)) ∧ ∀ k, inRow v' k → inRow v k := by
  obtain ⟨hl, ⟨rfl, rfl⟩ | ⟨b, rfl, rfl, hk, hb⟩ | ⟨b, c, rest, op, rfl, hk, hB, hc⟩⟩ := ha
  · have : m = 0 := by omega
    subst this
    exact ⟨.slice none 0 0, by simp [sliceA, ht, he], ⟨by simp, .inl ⟨rfl, rfl⟩⟩, fun _ h => h⟩
  · have : m = 0 := by omega
    subst this
    exact ⟨.slice (some ⟨b, 0, none⟩) 0 0, by simp [sliceA, ht, he, capO], ⟨by simp, .inr (.inl ⟨b, rfl, rfl, hk, hb⟩)⟩, fun _ h => h⟩
  · have hmz : m * z ≤ n * z := Nat.mul_le_mul_right z hm
    have hB' : h[b]? = some (.cells (xs.take (m * z) ++ (xs.drop (m * z) ++ rest)) false op) := by rw [← List.append_assoc, List.take_append_drop]; exact hB
    have hlen : (xs.take (m * z)).length = m * z := by simp; omega
    rcases hc with ⟨h1, h2, h3⟩ | ⟨h1, rfl⟩
    · refine ⟨.slice (some ⟨b, 0, none⟩) m c, ?_, ⟨hlen, .inr (.inr ⟨b, c, _, op, rfl, hk, hB', .inl ⟨by omega, h2, by rw [← List.append_assoc, List.take_append_drop]; exact h3⟩⟩)⟩, ?_⟩
      · have h3 : (m : Int) ≤ c := by omega
        simp [sliceA, ht, he, h2, h3]
      · rintro j ⟨a, p, r, he', rfl⟩; cases he'; exact ⟨_, _, _, rfl, rfl⟩
    · have hnc : ¬ c < capO := by omega
      have h4 : (m : Int) ≤ (c - capO : Nat) := by omega
      refine ⟨.slice (some ⟨b, 0, none⟩) m c, ?_, ⟨hlen, .inr (.inr ⟨b, c, _, some z, rfl, hk, hB', .inr ⟨by omega, rfl⟩⟩)⟩, ?_⟩
      · simp only [sliceA, ht, he, hnc, if_false, bnds_h]
        rw [if_pos ⟨by omega, h4⟩]
        simp [hB]
        omega
      · rintro j ⟨a, p, r, he', rfl⟩; cases he'; exact ⟨_, _, _, rfl, rfl⟩
theorem zeros_len (zs : List Value) : ∀ n, (zeros zs n).length = n * zs.length
  | 0 => by simp [zeros]
  | n + 1 => by simp only [zeros, List.length_append, zeros_len zs n]; rw [Nat.add_mul, Nat.one_mul]; omega
theorem zeros_all (zs : List Value) (hz : zs.all oneA = true) : ∀ n, (zeros zs n).all oneA = true
  | 0 => rfl
  | n + 1 => by simp only [zeros, List.all_append, zeros_all zs hz n, hz, Bool.and_self]
/-- from a place on all is cleared -/
theorem Ow.clearFrom {t e : TypeId} {v : Value} {zs xs : List Value} {q : IntKind} {m : Nat} (hz0 : 0 < z) (ha : Ow k h z v n xs) (ht : P.underlying t = some (.slice e)) (he : sizeT P e = some z) (hz : zeroT P e = some zs) (hzl : zs.length = z) (hx : zs.all oneA = true) (hm : m ≤ n) :
    ∃ v' h', sliceA P t v (some (.int q (m : Int))) none none h = some v' ∧ clearA P t v' h = some h' ∧ (∃ ys, Ow k h' z v n (xs.take (m * z) ++ ys)) ∧ Upd (fun j => inRow v j) h h' := by
  obtain ⟨hl, ⟨rfl, rfl⟩ | ⟨b, rfl, rfl, hk, hb⟩ | ⟨b, c, rest, op, rfl, hk, hB, hc⟩⟩ := ha
  · have : m = 0 := by omega
    subst this
    exact ⟨.slice none 0 0, h, by simp [sliceA, ht, he], by simp [clearA, ht], ⟨[], by simp, .inl ⟨rfl, rfl⟩⟩, Upd.refl⟩
  · have : m = 0 := by omega
    subst this
    refine ⟨.slice (some ⟨b, _, none⟩) 0 0, h, by simp [sliceA, ht, he, capO]; rfl, by simp [clearA, ht], ⟨[], by simp, .inr (.inl ⟨b, rfl, rfl, hk, hb⟩)⟩, Upd.refl⟩
  · have hlt := hp_lt hB
    have hmz : m * z ≤ n * z := Nat.mul_le_mul_right z hm
    have hdz : (n - m) * z = n * z - m * z := Nat.sub_mul _ _ _
    have key : ∀ o c', (n - m ≠ 0 → o = m * z) → ∃ h', clearA P t (.slice (some ⟨b, o, none⟩) (n - m) c') h = some h' ∧ (∃ ys, Ow k h' z (.slice (some ⟨b, 0, none⟩) n c) n (xs.take (m * z) ++ ys)) ∧ Upd (· = b) h h' := by
      intro o c' ho
      by_cases h0 : n - m = 0
      · have hmn : m = n := by omega
        have hmz' : m * z = n * z := by rw [hmn]
        refine ⟨h, by simp [clearA, ht, h0], ⟨[], by simp; omega, .inr (.inr ⟨b, c, rest, op, rfl, hk, ?_, ?_⟩)⟩, Upd.refl⟩
        · rw [hmn, List.take_of_length_le (by omega)]; simpa using hB
        · rw [hmn, List.take_of_length_le (by omega)]; simpa using hc
      · have ho := ho h0
        have hzl2 : (zeros zs (n - m)).length = (n - m) * z := by rw [zeros_len, hzl]
        have hsp := spl_mid (zeros zs (n - m)) xs rest o (by omega)
        have hd : xs.drop (o + (zeros zs (n - m)).length) = [] := List.drop_of_length_le (by omega)
        rw [hd, List.append_nil] at hsp
        refine ⟨h.set b (.cells ((xs.take o ++ zeros zs (n - m)) ++ rest) false op), ?_, ⟨zeros zs (n - m), by simp; omega, .inr (.inr ⟨b, c, rest, op, rfl, hk, by rw [List.getElem?_set_self hlt, ho], ?_⟩)⟩, Upd.set (S := (· = b)) rfl _⟩
        · simp only [clearA, ht, h0, if_false, hB, he, hz]
          rw [if_pos ⟨hzl, by simp; omega, zeros_all zs hx _⟩, hsp]
        · rcases hc with ⟨h1, h2, h3⟩ | h1
          · exact .inl ⟨h1, h2, by simp only [List.length_append, List.length_take] at h3 ⊢; omega⟩
          · exact .inr h1
    have hin : inRow (.slice (some ⟨b, 0, none⟩) n c) b := ⟨_, _, _, rfl, rfl⟩
    rcases hc with ⟨h1, h2, h2'⟩ | ⟨h1, rfl⟩
    · obtain ⟨h', e1, e2, e3⟩ := key (if c = m then 0 else m * z) (c - m) (fun hne => by rw [if_neg (by omega)])
      refine ⟨_, h', ?_, e1, e2, e3.mono fun j _ e => by subst e; exact hin⟩
      have h3 : (m : Int) ≤ n := by omega
      simp [sliceA, ht, he, h2, h3]
    · have hnc : ¬ c < capO := by omega
      obtain ⟨h', e1, e2, e3⟩ := key (m * z) (capO + (c - capO - m)) (fun _ => rfl)
      refine ⟨_, h', ?_, e1, e2, e3.mono fun j _ e => by subst e; exact hin⟩
      have h3 : (m : Int) ≤ n := by omega
      simp [sliceA, ht, he, hnc, h3, hB]
/-- what is put behind -/
theorem Ow.append {k by_ : Nat} {m : Nat} {t tx e : TypeId} {dx : TypeDesc} {v x : Value} {xs ys : List Value} (ha : Ow k h z v n xs) (hk : k ≤ h.length)
    (ht : P.underlying t = some (.slice e)) (hi : infoT P e = some (z, by_, z)) (htx : P.underlying tx = some dx) (hsx : isSrc dx = true) (hs : srcA z x h = some (m, ys)) (hy : ys.length = m * z) (ho : ys.all oneA = true)
    (hb : (n + m) * by_ ≤ 140737488355328) (hc : n + m < 4611686018427387904) :
    ∃ v' h', appendA P t tx v x h = some (v', h') ∧ Ow k h' z v' (n + m) (xs ++ ys) ∧ Upd (inRow v) h h' ∧ (∀ j, inRow v' j → inRow v j ∨ h.length ≤ j) := by
  have hmb : m * by_ ≤ (n + m) * by_ := Nat.mul_le_mul_right _ (by omega)
  by_cases hm : m = 0
  · subst hm
    simp at hy; subst hy
    refine ⟨v, h, ?_, by simpa using ha, Upd.refl, fun j hj => .inl hj⟩
    obtain ⟨hl, ⟨rfl, rfl⟩ | ⟨b, rfl, rfl, hkb, hb'⟩ | ⟨b, c, rest, op, rfl, hkb, hB, hr⟩⟩ := ha <;> simp [appendA, ht, hi, htx, hsx, hs]
  · have hnew : ∀ (g : Hp) (l : List Value) (j : Nat), g.length = h.length → inRow (growA z l (n + m) g).1 j → h.length ≤ j := by
      rintro g l j hg ⟨a, p, q, he, rfl⟩
      simp only [growA] at he
      cases he
      simp [hg]
    obtain ⟨hl, ⟨rfl, rfl⟩ | ⟨b, rfl, rfl, hkb, hb'⟩ | ⟨b, c, rest, op, rfl, hkb, hB, hr⟩⟩ := ha
    · simp at hl; subst hl
      refine ⟨(growA z ys (0 + m) h).1, (growA z ys (0 + m) h).2, ?_, ?_, Upd.new _, fun j hj => .inr (hnew _ _ _ rfl hj)⟩
      · simp only [appendA, ht, hi, htx, hsx, hs]
        simp [hm, growA]; omega
      · exact Acc.ow ⟨by simp [hy], .inr (.inr (.inl ⟨h.length, rfl, hk, by simp [growA]⟩))⟩
    · simp at hl; subst hl
      refine ⟨(growA z ys (0 + m) h).1, (growA z ys (0 + m) h).2, ?_, ?_, Upd.new _, fun j hj => .inr (hnew _ _ _ rfl hj)⟩
      · simp only [appendA, ht, hi, htx, hsx, hs]
        simp [hm, growA, capO, oldsA]; omega
      · exact Acc.ow ⟨by simp [hy], .inr (.inr (.inl ⟨h.length, rfl, hk, by simp [growA]⟩))⟩
    · have hlt := hp_lt hB
      have hxy : (xs ++ ys).length = (n + m) * z := by simp [hl, hy, Nat.add_mul]
      have hin : ∀ c', inRow (.slice (some ⟨b, 0, none⟩) n c') b := fun c' => ⟨_, _, _, rfl, rfl⟩
      have stay : ∀ (c : Nat) (op : Option Nat), h[b]? = some (.cells (xs ++ rest) false op) → (n + m) * z ≤ (xs ++ rest).length → ((n + m ≤ c ∧ c < capO ∧ (xs ++ rest).length = c * z) ∨ (capO + (n + m) ≤ c ∧ op = some z)) →
          Ow k (h.set b (.cells (spl (xs ++ rest) (0 + n * z) ys) false op)) z (.slice (some ⟨b, 0, none⟩) (n + m) c) (n + m) (xs ++ ys) := by
        intro c op hB hle hcc
        have h2 : ys.length ≤ rest.length := by simp at hle; rw [Nat.add_mul] at hle; omega
        have h3 := spl_append ys xs rest h2
        rw [hl] at h3
        rw [Nat.zero_add, h3]
        refine ⟨hxy, .inr (.inr ⟨b, c, rest.drop ys.length, op, rfl, hkb, by simp [hlt], ?_⟩)⟩
        rcases hcc with ⟨q1, q2, q3⟩ | q
        · exact .inl ⟨q1, q2, by simp at q3 ⊢; omega⟩
        · exact .inr q
      rcases hr with ⟨hn', hcc, hlen⟩ | ⟨hn', rfl⟩
      · by_cases hfit : n + m ≤ c
        · have h1 : (n + m) * z ≤ c * z := Nat.mul_le_mul_right z hfit
          refine ⟨.slice (some ⟨b, 0, none⟩) (n + m) c, _, ?_, stay c op hB (by omega) (.inl ⟨hfit, hcc, hlen⟩), Upd.set ⟨_, _, _, rfl, rfl⟩ _, fun j hj => .inl ?_⟩
          · simp only [appendA, ht, hi, htx, hsx, hs]
            simp only [Bool.true_eq_false, if_false, ne_eq, not_true, hm, hcc, hfit, hB, ho, and_true, if_true]
            rw [if_pos ⟨by omega, by omega⟩, if_pos (by omega)]
          · obtain ⟨a, p, q, he, rfl⟩ := hj
            cases he
            exact ⟨_, _, _, rfl, rfl⟩
        · have holds : oldsA z n b 0 h = some xs := by
            by_cases h0 : n = 0
            · subst h0; simp at hl; simp [oldsA, hl]
            · have h1 : n * z ≤ (xs ++ rest).length := by rw [hlen]; exact Nat.mul_le_mul_right z hn'
              simp only [oldsA, h0, if_false, hB, Nat.zero_add, h1, if_true, List.drop_zero]
              rw [List.take_append_of_le_length (by omega), List.take_of_length_le (by omega)]
          refine ⟨(growA z (xs ++ ys) (n + m) h).1, (growA z (xs ++ ys) (n + m) h).2, ?_, ?_, Upd.new _, fun j hj => .inr (hnew _ _ _ rfl hj)⟩
          · simp only [appendA, ht, hi, htx, hsx, hs]
            simp only [Bool.true_eq_false, if_false, ne_eq, not_true, hm, hcc, hfit, if_true, holds]
            rw [if_pos ⟨by omega, by omega⟩]
          · exact Acc.ow ⟨hxy, .inr (.inr (.inl ⟨h.length, by simp [growA], hk, by simp [growA]⟩))⟩
      · have hnc : ¬ c < capO := by omega
        have hx : List.take (n * z) (xs ++ rest) = xs := by rw [List.take_append_of_le_length (by omega), List.take_of_length_le (by omega)]
        have hle0 : 0 + n * z ≤ (xs ++ rest).length := by simp; omega
        by_cases hfit : n + m ≤ c - capO ∧ 0 + (n + m) * z ≤ (xs ++ rest).length
        · refine ⟨.slice (some ⟨b, 0, none⟩) (n + m) c, _, ?_, stay c (some z) hB (by omega) (.inr ⟨by omega, rfl⟩), Upd.set ⟨_, _, _, rfl, rfl⟩ _, fun j hj => .inl ?_⟩
          · simp only [appendA, ht, hi, htx, hsx, hs]
            simp only [Bool.true_eq_false, if_false, ne_eq, not_true, hm, hB, hnc, true_and, hle0, ho]
            rw [if_pos ⟨by omega, by omega⟩, if_pos hfit]
            simp
          · obtain ⟨a, p, q, he, rfl⟩ := hj
            cases he
            exact ⟨_, _, _, rfl, rfl⟩
        · refine ⟨(growA z (xs ++ ys) (n + m) (h.set b .dead)).1, (growA z (xs ++ ys) (n + m) (h.set b .dead)).2, ?_, ?_, ?_, fun j hj => .inr (hnew _ _ _ (by simp) hj)⟩
          · simp only [appendA, ht, hi, htx, hsx, hs]
            simp only [Bool.true_eq_false, if_false, ne_eq, not_true, hm, hB, hnc, true_and, hle0, ho, List.drop_zero, hx]
            rw [if_pos ⟨by omega, by omega⟩, if_neg hfit]
            simp
          · exact Acc.ow ⟨hxy, .inr (.inr (.inl ⟨h.length, by simp [growA], hk, by simp [growA]⟩))⟩
          · exact Upd.trans (Upd.set (S := inRow (.slice (some ⟨b, 0, none⟩) n c)) ⟨_, _, _, rfl, rfl⟩ .dead) (Upd.new (S := fun _ => False) _) (fun _ _ h => h.elim)
end
end Go.Ab
