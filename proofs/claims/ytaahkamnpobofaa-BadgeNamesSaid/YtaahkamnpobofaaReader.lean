/- code's reader: what its calls answer; no condition. -/
import Derived.Test.YtaahkamnpobofaaNumber
namespace Go.Proofs.Ytaahkamnpobofaa
open Go.Ab

noncomputable def wth (l : List UInt8) (above : Int) : Nat × Nat := if (num l).1 > 2147483647 ∨ ((num l).1 : Int) > above then (0, 0) else num l
theorem num_lt (l : List UInt8) : (num l).1 < 18446744073709551616 := by
  rcases num_cases l with ⟨u, hu, he⟩ | ⟨_, he⟩
  · rw [he]; exact hu.1
  · rw [he]; decide
theorem within_ev (s : ByteArray) (above : Int) (h : Hp) : EvA Try.prog 94 [.string s, .int .i64 above]
    (fun r h' => r = .tuple #[.int .i64 ((wth s.data.toList above).1 : Nat), .int .i64 ((wth s.data.toList above).2 : Nat)] ∧ h' = h) h := by
  have hlt := num_lt s.data.toList
  refine EvA.body Try.func94 rfl (by kernel_rfl) (by simp) ?_
  apply Run.ok
  simp
  refine after_call (number_ev s h) ?_
  rintro r h' ⟨rfl, rfl⟩
  simp
  by_cases c1 : 2147483647 < (num s.data.toList).1
  · have c1' : (2147483647 : Int) < ((num s.data.toList).1 : Nat) := by omega
    simp [c1, c1', wth]
  · have c1' : ¬ (2147483647 : Int) < ((num s.data.toList).1 : Nat) := by omega
    have w := wrap_i64 (a := ((num s.data.toList).1 : Int)) (by omega) (by omega)
    by_cases c2 : above < ((num s.data.toList).1 : Int)
    · simp [c1, c1', c2, w, wth]
    · simp [c1, c1', c2, w, wth]
/-- a reader: what it reads, and where it stands -/
def Rdr (h : Hp) (b : Nat) (s : ByteArray) (a : Nat) : Prop := h[b]? = some (.cells [.string s, .int .i64 (a : Nat)] false none)
theorem extract_drop (s : ByteArray) (a : Nat) : (s.extract a s.size).data.toList = s.data.toList.drop a := by
  simp [ByteArray.data_extract, Array.toList_extract, List.extract]
  have : s.size = s.data.toList.length := by simp
  rw [List.take_of_length_le]
  simp
theorem ok_ev (b : Nat) (s : ByteArray) (a : Nat) (h : Hp) (hr : Rdr h b s a) : EvA Try.prog 129 [.pointer (some ⟨b, 0, none⟩)] (fun r h' => r = .bool (decide (a ≤ s.size)) ∧ h' = h) h := by
  refine EvA.body Try.func129 rfl (by kernel_rfl) (by simp) ?_
  apply Run.ok
  unfold Rdr at hr
  simp [hr]
  refine WpA.drawn [0, 1, 2, 3, 4, 5, 6, 7, 8, 9, 10] (by kernel_rfl) (by decide +kernel) ?_
  simp [hr]
theorem rest_ev (b : Nat) (s : ByteArray) (a : Nat) (h : Hp) (hr : Rdr h b s a) : EvA Try.prog 117 [.pointer (some ⟨b, 0, none⟩)] (fun r h' => r = .string (s.extract (min a s.size) s.size) ∧ h' = h) h := by
  refine EvA.body Try.func117 rfl (by kernel_rfl) (by simp) ?_
  apply Run.ok
  unfold Rdr at hr
  simp [hr]
  refine WpA.drawn [0, 1, 2, 3, 4, 5, 6, 7, 8, 9, 10, 11, 12, 13, 14, 15] (by kernel_rfl) (by decide +kernel) ?_
  have hb : bndsA s.size s.size (some (.int .i64 (min (a : Int) s.size))) none none = some (min a s.size, s.size, s.size) := by
    rw [bnds_l, if_pos (by omega)]
    congr 2; omega
  simp [hr, hb, -bnds_l]
theorem done_ev (b : Nat) (s : ByteArray) (a : Nat) (h : Hp) (hr : Rdr h b s a) : EvA Try.prog 95 [.pointer (some ⟨b, 0, none⟩)] (fun r h' => r = .bool (decide (a = s.size)) ∧ h' = h) h := by
  refine EvA.body Try.func95 rfl (by kernel_rfl) (by simp) ?_
  apply Run.ok
  unfold Rdr at hr
  simp [hr]
  refine WpA.drawn [0, 1, 2, 3, 4, 5, 6, 7, 8, 9, 10] (by kernel_rfl) (by decide +kernel) ?_
  have e : ((a : Int) == s.size) = decide (a = s.size) := by
    rw [Bool.eq_iff_iff]; simp; omega
  simp [hr, e]
theorem rok_ev (b : Nat) (s : ByteArray) (a : Nat) (h : Hp) (hr : Rdr h b s a) : EvA Try.prog 116 [.pointer (some ⟨b, 0, none⟩)] (fun r h' => r = .bool (decide (a ≤ s.size)) ∧ h' = h) h := by
  refine EvA.body Try.func116 rfl (by kernel_rfl) (by simp) ?_
  apply Run.ok
  simp
  refine after_call (ok_ev b s a h hr) ?_
  rintro r h' ⟨rfl, rfl⟩
  simp
theorem rdone_ev (b : Nat) (s : ByteArray) (a : Nat) (h : Hp) (hr : Rdr h b s a) : EvA Try.prog 66 [.pointer (some ⟨b, 0, none⟩)] (fun r h' => r = .bool (decide (a = s.size)) ∧ h' = h) h := by
  refine EvA.body Try.func66 rfl (by kernel_rfl) (by simp) ?_
  apply Run.ok
  simp
  refine after_call (done_ev b s a h hr) ?_
  rintro r h' ⟨rfl, rfl⟩
  simp
/-- what a reader's function answers, looking at a text -/
def Looks (g : Value) (h : Hp) (look : List UInt8 → Value × Nat) : Prop :=
  ∃ f cap, g = .func (.func f) #[] cap ∧ ∀ (s : ByteArray) (h' : Hp), s.size < 4611686018427387904 → Same h h' → EvA Try.prog f (.string s :: cap.toList) (fun r h'' => r = .tuple #[(look s.data.toList).1, .int .i64 ((look s.data.toList).2 : Nat)] ∧ h'' = h') h'
theorem offInt_ev (b : Nat) (s : ByteArray) (a : Nat) (g : Value) (look : List UInt8 → Value × Nat) (h : Hp) (hr : Rdr h b s a) (hs : s.size < 4611686018427387904) (hg : Looks g h look) (hz : ∀ l, (look l).2 ≤ l.length) :
    EvA Try.prog 92 [.pointer (some ⟨b, 0, none⟩), g] (fun r h' =>
      if a ≤ s.size then
        if (look (s.data.toList.drop a)).2 = 0 then r = .int .i64 0 ∧ h' = h.set b (.cells [.string s, .int .i64 (s.size + 1 : Nat)] false none)
        else r = (look (s.data.toList.drop a)).1 ∧ h' = h.set b (.cells [.string s, .int .i64 (a + (look (s.data.toList.drop a)).2 : Nat)] false none)
      else r = .int .i64 0 ∧ h' = h) h := by
  obtain ⟨f, cap, rfl, hl⟩ := hg
  refine EvA.body Try.func92 rfl (by kernel_rfl) (by simp) ?_
  apply Run.ok
  simp
  refine after_call (rok_ev b s a h hr) ?_
  rintro r h' ⟨rfl, rfl⟩
  simp
  by_cases c : a ≤ s.size
  · simp [c]
    refine after_call (rest_ev b s a h' hr) ?_
    rintro r h2 ⟨rfl, rfl⟩
    simp
    have hm : min a s.size = a := by omega
    rw [hm]
    refine after_call (hl (s.extract a s.size) h2 (by simp; omega) Same.refl) ?_
    rw [extract_drop]
    generalize hL : look (s.data.toList.drop a) = L
    have hL2 : L.2 ≤ s.size - a := by have := hz (s.data.toList.drop a); rw [hL] at this; simpa using this
    rintro r h3 ⟨rfl, rfl⟩
    simp
    by_cases c2 : L.2 = 0
    · have c2' : ((L.2 : Int) == 0) = true := by simp; omega
      have hr' : h3[b]? = some (.cells [.string s, .int .i64 (a : Nat)] false none) := hr
      have w := wrap_i64 (a := (s.size : Int) + 1) (by omega) (by omega)
      simp [c, c2, c2', hr', w]
    · have c2' : ((L.2 : Int) == 0) = false := by simp; omega
      have hr' : h3[b]? = some (.cells [.string s, .int .i64 (a : Nat)] false none) := hr
      have w := wrap_i64 (a := (a : Int) + L.2) (by omega) (by omega)
      simp [c, c2, c2', hr', w]
  · simp [c]
/-- a reader's call: what it answers, and where the reader stands then -/
def rdLook (l : List UInt8) (a : Nat) (z : Value) (L : Value × Nat) : Value × Nat := if a ≤ l.length then (if L.2 = 0 then (z, l.length + 1) else (L.1, a + L.2)) else (z, a)
noncomputable def cntLook (above : Int) (l : List UInt8) : Value × Nat := (.int .i64 ((wth l above).1 : Nat), (wth l above).2)
theorem wth_le (l : List UInt8) (above : Int) : (wth l above).2 ≤ l.length := by
  unfold wth
  split
  · simp
  · rcases num_cases l with ⟨u, hu, he⟩ | ⟨_, he⟩
    · rw [he]; simp only; rw [← enc_length]; exact hu.2.length_le
    · rw [he]; simp
theorem count1_ev (p : Nat) (s : ByteArray) (above : Int) (h : Hp) (hp : h[p]? = some (.cells [.int .i64 above] false none)) :
    EvA Try.prog 93 [.string s, .pointer (some ⟨p, 0, none⟩)] (fun r h' => r = .tuple #[(cntLook above s.data.toList).1, .int .i64 ((cntLook above s.data.toList).2 : Nat)] ∧ h' = h) h := by
  refine EvA.body Try.func93 rfl (by kernel_rfl) (by simp) ?_
  apply Run.ok
  simp [hp]
  refine after_call (within_ev s above h) ?_
  rintro r h' ⟨rfl, rfl⟩
  simp [cntLook]
theorem rd_of {b : Nat} {s : ByteArray} {a : Nat} {h g h' : Hp} {z r : Value} {L : Value × Nat} (hr : Rdr g b s a) (hg : Same h g) (hb : b < h.length)
    (hq : if a ≤ s.size then
        if L.2 = 0 then r = z ∧ h' = g.set b (.cells [.string s, .int .i64 (s.size + 1 : Nat)] false none)
        else r = L.1 ∧ h' = g.set b (.cells [.string s, .int .i64 (a + L.2 : Nat)] false none)
      else r = z ∧ h' = g) : r = (rdLook s.data.toList a z L).1 ∧ Rdr h' b s (rdLook s.data.toList a z L).2 ∧ Upd (· = b) h h' := by
  have hsz : s.data.toList.length = s.size := by simp
  have hbg : b < g.length := hp_lt hr
  have hup : ∀ B, Upd (· = b) h (g.set b B) := fun B => Upd.trans (hg.mono (fun _ _ h => h.elim)) (Upd.set (S := (· = b)) rfl B) (fun _ _ h => h)
  simp only [rdLook, hsz]
  split at hq
  · rename_i c
    rw [if_pos c]
    split at hq
    · rename_i c2
      obtain ⟨rfl, rfl⟩ := hq
      rw [if_pos c2]
      exact ⟨rfl, by simp [Rdr, hbg], hup _⟩
    · rename_i c2
      obtain ⟨rfl, rfl⟩ := hq
      rw [if_neg c2]
      exact ⟨rfl, by simp [Rdr, hbg], hup _⟩
  · rename_i c
    obtain ⟨rfl, rfl⟩ := hq
    rw [if_neg c]
    exact ⟨rfl, hr, hg.mono (fun _ _ h => h.elim)⟩
theorem count_ev (b : Nat) (s : ByteArray) (a : Nat) (above : Int) (h : Hp) (hr : Rdr h b s a) (hs : s.size < 4611686018427387904) :
    EvA Try.prog 65 [.pointer (some ⟨b, 0, none⟩), .int .i64 above] (fun r h' =>
      r = (rdLook s.data.toList a (.int .i64 0) (cntLook above (s.data.toList.drop a))).1 ∧ Rdr h' b s (rdLook s.data.toList a (.int .i64 0) (cntLook above (s.data.toList.drop a))).2 ∧ Upd (· = b) h h') h := by
  refine EvA.body Try.func65 rfl (by kernel_rfl) (by simp) ?_
  apply Run.ok
  simp
  have hr' : Rdr (h ++ [Blk.cells [.int .i64 above] false none]) b s a := Same.at (Same.new _) hr
  refine after_call (offInt_ev b s a _ (cntLook above) _ hr' hs ⟨93, _, rfl, fun s g _ hg => ?_⟩ (fun l => wth_le l above)) ?_
  · exact count1_ev h.length s above g (hg.at (by simp))
  · intro r h' hq
    simp
    exact rd_of hr' (Same.new _) (hp_lt hr) hq
noncomputable def strLook (above : Int) (l : List UInt8) : Value × Nat :=
  if (wth l above).2 = 0 ∨ (wth l above).1 > l.length - (wth l above).2 then (.string ⟨#[]⟩, 0)
  else (.string ⟨((l.drop (wth l above).2).take (wth l above).1).toArray⟩, (wth l above).2 + (wth l above).1)
theorem strLook_le (l : List UInt8) (above : Int) : (strLook above l).2 ≤ l.length := by
  have := wth_le l above
  unfold strLook
  split
  · simp
  · simp; omega
set_option maxRecDepth 10000 in
theorem newReader_ev (v : Value) (l : List UInt8) (h : Hp) (hb : Bytes h v l) :
    EvA Try.prog 64 [v] (fun r h' => r = .pointer (some ⟨h.length, 0, none⟩) ∧ h' = h ++ [.cells [.string ⟨l.toArray⟩, .int .i64 0] false none]) h := by
  refine EvA.body Try.func64 rfl (by kernel_rfl) (by simp) ?_
  apply Run.ok
  have hc := Bytes.str (P := Try.prog) (t := 42) (u := 9) (e := 5) hb (by simp) (by simp) (by simp)
  simp [hc]
end Go.Proofs.Ytaahkamnpobofaa
