/- code's reader, by what is left: what its calls answer; no condition. -/
import Derived.Test.YtaahkamnpobofaaReader
namespace Go.Proofs.Ytaahkamnpobofaa
open Go.Ab
/-- a reader: what is left; none: it has failed -/
def RdrO (h : Hp) (b : Nat) (o : Option (List UInt8)) : Prop :=
  ∃ (s : ByteArray) (a : Nat), Rdr h b s a ∧ s.size < 4611686018427387904 ∧ ((o = none ∧ a = s.size + 1) ∨ (o = some (s.data.toList.drop a) ∧ a ≤ s.size))
theorem RdrO.upd {h h' : Hp} {b : Nat} {o : Option (List UInt8)} {S : Nat → Prop} (r : RdrO h b o) (u : Upd S h h') (hb : ¬ S b) : RdrO h' b o := by
  obtain ⟨s, a, h1, h2⟩ := r
  exact ⟨s, a, u.at h1 hb, h2⟩
theorem RdrO.same {h h' : Hp} {b : Nat} {o : Option (List UInt8)} (r : RdrO h b o) (u : Same h h') : RdrO h' b o := r.upd u (fun h => h)
theorem RdrO.lt {h : Hp} {b : Nat} {o : Option (List UInt8)} (r : RdrO h b o) : b < h.length := by
  obtain ⟨s, a, h1, _⟩ := r; exact hp_lt h1
/-- a count taken off -/
noncomputable def cntO (most : Int) : Option (List UInt8) → Nat × Option (List UInt8)
  | none => (0, none)
  | some l => if (wth l most).2 = 0 then (0, none) else ((wth l most).1, some (l.drop (wth l most).2))
/-- a text taken off -/
noncomputable def strO (most : Int) : Option (List UInt8) → List UInt8 × Option (List UInt8)
  | none => ([], none)
  | some l => if (wth l most).2 = 0 ∨ (wth l most).1 > l.length - (wth l most).2 then ([], none)
    else ((l.drop (wth l most).2).take (wth l most).1, some (l.drop ((wth l most).2 + (wth l most).1)))
theorem cntO_le (most : Int) (o : Option (List UInt8)) : (cntO most o).1 ≤ 2147483647 ∧ (0 ≤ most → ((cntO most o).1 : Int) ≤ most) := by
  cases o with
  | none => simp [cntO]
  | some l =>
    simp only [cntO]
    split
    · simp
    · simp only [wth]
      split
      · simp
      · rename_i h; simp only [not_or] at h; constructor
        · omega
        · intro _; omega
theorem count_o {h : Hp} {b : Nat} {o : Option (List UInt8)} (most : Int) (hr : RdrO h b o) :
    EvA Try.prog 65 [.pointer (some ⟨b, 0, none⟩), .int .i64 most] (fun r h' => r = .int .i64 ((cntO most o).1 : Nat) ∧ RdrO h' b (cntO most o).2 ∧ Upd (· = b) h h') h := by
  obtain ⟨s, a, hr, hs, ho⟩ := hr
  have hsz : s.data.toList.length = s.size := by simp
  refine EvA.use (count_ev b s a most h hr hs) ?_
  rintro r h' ⟨rfl, R, u⟩
  rcases ho with ⟨rfl, rfl⟩ | ⟨rfl, ha⟩
  · have c : ¬ s.size + 1 ≤ s.data.toList.length := by omega
    simp only [rdLook, if_neg c] at R ⊢
    exact ⟨rfl, ⟨s, _, R, hs, .inl ⟨rfl, rfl⟩⟩, u⟩
  · have c : a ≤ s.data.toList.length := by omega
    have hle := wth_le (s.data.toList.drop a) most
    rw [List.length_drop, hsz] at hle
    by_cases c2 : (wth (s.data.toList.drop a) most).2 = 0
    · have c2' : (cntLook most (s.data.toList.drop a)).2 = 0 := c2
      simp only [rdLook, if_pos c, if_pos c2'] at R ⊢
      simp only [cntO, if_pos c2]
      exact ⟨rfl, ⟨s, _, R, hs, .inl ⟨rfl, by rw [hsz]⟩⟩, u⟩
    · have c2' : ¬ (cntLook most (s.data.toList.drop a)).2 = 0 := c2
      simp only [rdLook, if_pos c, if_neg c2'] at R ⊢
      simp only [cntO, if_neg c2]
      have he : (cntLook most (s.data.toList.drop a)).2 = (wth (s.data.toList.drop a) most).2 := rfl
      rw [he] at R
      exact ⟨rfl, ⟨s, _, R, hs, .inr ⟨by rw [List.drop_drop], by omega⟩⟩, u⟩
theorem done_o {h : Hp} {b : Nat} {o : Option (List UInt8)} (hr : RdrO h b o) :
    EvA Try.prog 66 [.pointer (some ⟨b, 0, none⟩)] (fun r h' => r = .bool (decide (o = some [])) ∧ h' = h) h := by
  obtain ⟨s, a, hr, hs, ho⟩ := hr
  have hsz : s.data.toList.length = s.size := by simp
  refine EvA.use (rdone_ev b s a h hr) ?_
  rintro r h' ⟨rfl, rfl⟩
  refine ⟨?_, rfl⟩
  rcases ho with ⟨rfl, rfl⟩ | ⟨rfl, ha⟩
  · simp
  · congr 1
    rw [decide_eq_decide, Option.some_inj, List.drop_eq_nil_iff, hsz]; omega
theorem newReader_o {h : Hp} {v : Value} {l : List UInt8} (hb : Bytes h v l) (hl : l.length < 4611686018427387904) :
    EvA Try.prog 64 [v] (fun r h' => r = .pointer (some ⟨h.length, 0, none⟩) ∧ RdrO h' h.length (some l) ∧ Same h h') h := by
  refine EvA.use (newReader_ev v l h hb) ?_
  rintro r h' ⟨rfl, rfl⟩
  exact ⟨rfl, ⟨⟨l.toArray⟩, 0, by simp [Rdr], by simp [ByteArray.size]; omega, .inr ⟨by simp, by omega⟩⟩, Same.new _⟩
end Go.Proofs.Ytaahkamnpobofaa
