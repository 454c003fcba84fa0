/- Rows that may be cut; no condition. -/
import Derived.Test.YtojdhmkjegkfkaaAb17
namespace Go.Ab
open Go.RowKit
section
variable {P : Program} {h h' : Hp} {n z : Nat} {S : Nat → Prop}

/-- v is a row, and what is cut out of it is one -/
def Sl (h : Hp) (z : Nat) (v : Value) (n : Nat) (xs : List Value) : Prop :=
  Row h z v n xs ∧ (v = .slice none 0 0 ∨ ∃ b o c, v = .slice (some ⟨b, o, none⟩) n c ∧ ((c < capO ∧ n ≤ c) ∨ (capO + n ≤ c ∧ ∃ cs ro, h[b]? = some (.cells cs ro (some z)))))
theorem Sl.upd {v : Value} {xs : List Value} (hr : Sl h z v n xs) (u : Upd S h h') (hn : ∀ k, inRow v k → ¬ S k) : Sl h' z v n xs := by
  refine ⟨hr.1.upd u hn, ?_⟩
  rcases hr.2 with rfl | ⟨b, o, c, rfl, h1 | ⟨h1, cs, ro, h2⟩⟩
  · exact .inl rfl
  · exact .inr ⟨b, o, c, rfl, .inl h1⟩
  · exact .inr ⟨b, o, c, rfl, .inr ⟨h1, cs, ro, u.at h2 (hn b ⟨_, _, _, rfl, rfl⟩)⟩⟩
theorem Sl.same {v : Value} {xs : List Value} (hr : Sl h z v n xs) (u : Same h h') : Sl h' z v n xs := hr.upd u (fun _ _ h => h)
theorem Acc.sl {k : Nat} {v : Value} {xs : List Value} (ha : Acc k h z v n xs) : Sl h z v n xs := by
  refine ⟨ha.row, ?_⟩
  obtain ⟨hl, ⟨rfl, rfl⟩ | ⟨b, rfl, rfl, hk, hb⟩ | ⟨b, rfl, hk, hB⟩ | ⟨b, c, rest, op, rfl, hn', hc, hk, hB, hr⟩⟩ := ha
  · exact .inl rfl
  · exact .inr ⟨b, 0, 0, rfl, .inl ⟨by simp [capO], Nat.le_refl _⟩⟩
  · exact .inr ⟨b, 0, _, rfl, .inr ⟨Nat.le_refl _, xs, false, hB⟩⟩
  · exact .inr ⟨b, 0, c, rfl, .inl ⟨hc, hn'⟩⟩
theorem Row.cut {b o c lo m : Nat} {xs : List Value} (hr : Row h z (.slice (some ⟨b, o, none⟩) n c) n xs) (h1 : lo ≤ m) (h2 : m ≤ n) (c' o' : Nat) (ho : m ≠ lo → o' = o + lo * z) :
    Row h z (.slice (some ⟨b, o', none⟩) (m - lo) c') (m - lo) ((xs.drop (lo * z)).take ((m - lo) * z)) := by
  refine ⟨⟨_, _, rfl⟩, ?_, ?_⟩
  · by_cases hm : m = lo
    · subst hm; simp [srcA]
    · obtain ⟨_, ⟨h0, _⟩ | ⟨h0, b', o'', cs, ro, op, he, hB, hle, hx⟩⟩ := hr.inv
      · omega
      · cases he
        have hlo : lo * z + (m - lo) * z ≤ n * z := by rw [← Nat.add_mul]; exact Nat.mul_le_mul_right z (by omega)
        have hd : ¬ (m - lo = 0) := by omega
        simp only [srcA, if_neg hd, hB, ho hm]
        rw [if_pos (by omega), hx, List.drop_take, List.take_take, Nat.min_eq_left (by omega), List.drop_drop]
  · have hl := hr.2.2
    have hlo : lo * z + (m - lo) * z ≤ n * z := by rw [← Nat.add_mul]; exact Nat.mul_le_mul_right z (by omega)
    simp; omega
/-- a cut -/
theorem Sl.cut {t e : TypeId} {v : Value} {xs : List Value} {lo hi : Option Value} {l m : Nat} (hs : Sl h z v n xs) (ht : P.underlying t = some (.slice e)) (he : sizeT P e = some z)
    (hb : ∀ c, n ≤ c → bndsA n c lo hi none = some (l, m, c)) (h1 : l ≤ m) (h2 : m ≤ n) :
    ∃ v', (∀ g, Same h g → sliceA P t v lo hi none g = some v') ∧ Sl h z v' (m - l) ((xs.drop (l * z)).take ((m - l) * z)) ∧ ∀ k, inRow v' k → inRow v k := by
  obtain ⟨hr, rfl | ⟨b, o, c, rfl, ⟨hc, hn⟩ | ⟨hc, cs, ro, hB⟩⟩⟩ := hs
  · have h0 : n = 0 := by obtain ⟨_, hs, _⟩ := hr; simp [srcA] at hs; exact hs.1.symm
    subst h0
    have hx : xs = [] := by have := hr.2.2; simpa using this
    subst hx
    have hl0 : l = 0 := by omega
    have hm0 : m = 0 := by omega
    subst hl0; subst hm0
    exact ⟨.slice none 0 0, fun g _ => by simp [sliceA, ht, he, hb 0 (Nat.le_refl _)], ⟨by simpa using Row.nil, .inl rfl⟩, fun k hk => hk⟩
  · refine ⟨.slice (some ⟨b, if c = l then o else o + l * z, none⟩) (m - l) (c - l), fun g _ => by simp [sliceA, ht, he, hc, hb c hn], ⟨?_, .inr ⟨b, _, c - l, rfl, .inl ⟨by omega, by omega⟩⟩⟩, ?_⟩
    · refine Row.cut hr h1 h2 _ _ (fun hne => ?_)
      rw [if_neg (by omega)]
    · rintro k ⟨a, p, q, he', rfl⟩; cases he'; exact ⟨_, _, _, rfl, rfl⟩
  · have hnc : ¬ c < capO := by omega
    refine ⟨.slice (some ⟨b, o + l * z, none⟩) (m - l) (capO + (c - capO - l)), fun g hg => by simp [sliceA, ht, he, hnc, hb (c - capO) (by omega), hg.at hB], ⟨Row.cut hr h1 h2 _ _ (fun _ => rfl), .inr ⟨b, _, _, rfl, .inr ⟨by omega, cs, ro, hB⟩⟩⟩, ?_⟩
    rintro k ⟨a, p, q, he', rfl⟩; cases he'; exact ⟨_, _, _, rfl, rfl⟩
/-- bytes that may be cut -/
def SlB (h : Hp) (v : Value) (l : List UInt8) : Prop := Sl h 1 v l.length (l.map byteV)
theorem SlB.bytes {v : Value} {l : List UInt8} (hs : SlB h v l) : Bytes h v l := hs.1
theorem SlB.same {v : Value} {l : List UInt8} (hs : SlB h v l) (u : Same h h') : SlB h' v l := Sl.same hs u
theorem SlB.upd {v : Value} {l : List UInt8} (hs : SlB h v l) (u : Upd S h h') (hn : ∀ k, inRow v k → ¬ S k) : SlB h' v l := Sl.upd hs u hn
theorem BAcc.sl {k : Nat} {v : Value} {l : List UInt8} (ha : BAcc k h v l) : SlB h v l := Acc.sl ha
theorem SlB.hi {t e : TypeId} {v : Value} {l : List UInt8} {k : IntKind} {m : Nat} (hs : SlB h v l) (ht : P.underlying t = some (.slice e)) (he : sizeT P e = some 1) (hm : m ≤ l.length) :
    ∃ v', (∀ g, Same h g → sliceA P t v none (some (.int k (m : Int))) none g = some v') ∧ SlB h v' (l.take m) ∧ ∀ k, inRow v' k → inRow v k := by
  obtain ⟨v', e1, e2, e3⟩ := Sl.cut (P := P) (lo := none) (hi := some (.int k (m : Int))) (l := 0) (m := m) hs ht he (fun c hc => by rw [bnds_h, if_pos (by omega)]; simp) (by omega) hm
  refine ⟨v', e1, ?_, e3⟩
  have : (l.take m).length = m := by simp; omega
  simp only [SlB, this]
  simpa [List.map_take] using e2
theorem SlB.lo {t e : TypeId} {v : Value} {l : List UInt8} {k : IntKind} {m : Nat} (hs : SlB h v l) (ht : P.underlying t = some (.slice e)) (he : sizeT P e = some 1) (hm : m ≤ l.length) :
    ∃ v', (∀ g, Same h g → sliceA P t v (some (.int k (m : Int))) none none g = some v') ∧ SlB h v' (l.drop m) ∧ ∀ k, inRow v' k → inRow v k := by
  obtain ⟨v', e1, e2, e3⟩ := Sl.cut (P := P) (lo := some (.int k (m : Int))) (hi := none) (l := m) (m := l.length) hs ht he (fun c hc => by rw [bnds_l, if_pos (by omega)]; simp) (by omega) (Nat.le_refl _)
  refine ⟨v', e1, ?_, e3⟩
  have : (l.drop m).length = l.length - m := by simp
  simp only [SlB, this]
  simp only [Nat.mul_one] at e2
  rw [List.take_of_length_le (by simp)] at e2
  simpa [List.map_drop] using e2
end
end Go.Ab
