/- The document's events (bastionref29): Word, Seen, Take, Bytes; no condition. -/
import Derived.Test.YtojdhmkjegkfkaaEvE
import Derived.Test.YtojdhmkjegkfkaaRefA
namespace Go.Proofs.Ytojdhmkjegkfkaa
open Go.Ab
structure RE (h : Hp) (k b : Nat) (v : Value) (l : List Ev) : Prop where
  at_ : h[b]? = some (.cells [v] false none)
  above : k ≤ b
  row : Sl h 2 v l.length (l.flatMap Ev.cells)
  ab : ∀ j, inRow v j → k ≤ j ∧ j < h.length
  ne : ∀ j, inRow v j → j ≠ b
  len : l.length ≤ 8
theorem RE.t {h : Hp} {k b : Nat} {v : Value} {l : List Ev} (e : RE h k b v l) : TRow h 2 v l Ev.cells := ⟨e.row.1, fun _ _ => rfl⟩
theorem RE.upd {h h' : Hp} {k b : Nat} {v : Value} {l : List Ev} {S : Nat → Prop} (e : RE h k b v l) (u : Upd S h h') (hb : ¬ S b) (ha : ∀ j, inRow v j → ¬ S j) : RE h' k b v l :=
  ⟨u.at e.at_ hb, e.above, e.row.upd u ha, fun j hj => ⟨(e.ab j hj).1, by have := (e.ab j hj).2; have := u.len; omega⟩, e.ne, e.len⟩
theorem RE.same {h h' : Hp} {k b : Nat} {v : Value} {l : List Ev} (e : RE h k b v l) (u : Same h h') : RE h' k b v l := e.upd u (fun h => h) (fun _ _ h => h)
theorem RE.l0 {h : Hp} {k b : Nat} {v : Value} {l : List Ev} (e : RE h k b v l) : loadA Try.prog 61 (.pointer (some ⟨b, 0, none⟩)) h = some v := by rw [load_at e.at_ (by simp)]; rfl
theorem RE.tl {h : Hp} {k b : Nat} {v : Value} {l : List Ev} (e : RE h k b v l) : lenA Try.prog 61 v h = some (.int .i64 (l.length : Nat)) := e.t.len (e := 94) (by simp)
theorem rword_ev (s : List UInt8) (hs : s.length ≤ 140737488355320) (h : Hp) : EvA Try.prog 68 [.string (bs s)] (fun r h' => h' = h ∧ r = .bool (wordB s)) h := by
  refine EvA.body Try.func68 rfl (by kernel_rfl) (by simp) ?_
  apply Run.ok
  by_cases c1 : s.length < 1
  · have hn : s = [] := List.eq_nil_of_length_eq_zero (by omega)
    subst hn
    simp [wordB]
  · by_cases c2 : 64 < s.length
    · have c1' : ¬ (s.length : Int) < 1 := by omega
      have c2' : (64 : Int) < s.length := by omega
      have hw : wordB s = false := by
        have : decide (s.length ≤ 64) = false := by simp; omega
        simp only [wordB, this, Bool.and_false]
      simp [c1', c2', hw]
    · have c1' : ¬ (s.length : Int) < 1 := by omega
      have c2' : ¬ (64 : Int) < s.length := by omega
      simp [c1', c2']
      refine WpA.loop (fun k fr h' => ∃ i, k = s.length - i ∧ i ≤ s.length ∧ fr 0 = .string (bs s) ∧ fr 3 = .int .i64 (i : Nat) ∧ h' = h ∧ ∀ c ∈ s.take i, 33 ≤ c.toNat ∧ c.toNat ≤ 126)
        (k := s.length) ⟨0, by simp, by omega, by simp, by simp, rfl, by simp⟩ ?_
      rintro k fr h' ⟨i, rfl, hi, f0, f3, rfl, hb⟩
      apply Run.ok
      by_cases c : i < s.length
      · have c' : (i : Int) < s.length := by omega
        have w1 : IntKind.i64.wrap ((i : Int) + 1) = (i : Int) + 1 := wrap_i64 (by omega) (by omega)
        have hg : s[i]? = some s[i] := List.getElem?_eq_getElem c
        have htk : s.take (i + 1) = s.take i ++ [s[i]] := by rw [List.take_add_one, hg]; rfl
        have hm : s[i] ∈ s := List.getElem_mem _
        generalize s[i] = x at hg htk hm
        by_cases h1 : (x.toNat : Int) < 33
        · have : wordB s = false := by
            have : s.all (fun c => decide (33 ≤ c.toNat ∧ c.toNat ≤ 126)) = false := List.all_eq_false.2 ⟨x, hm, by simp; omega⟩
            simp only [wordB, this, Bool.false_and]
          simp [f0, f3, c', hg, h1, this]
        · by_cases h2 : (126 : Int) < x.toNat
          · have : wordB s = false := by
              have : s.all (fun c => decide (33 ≤ c.toNat ∧ c.toNat ≤ 126)) = false := List.all_eq_false.2 ⟨x, hm, by simp; omega⟩
              simp only [wordB, this, Bool.false_and]
            simp [f0, f3, c', hg, h1, h2, this]
          · simp [f0, f3, c', hg, h1, h2, w1, -roundQ_normal, ↓rq]
            refine stop_intro ⟨s.length - (i + 1), by omega, i + 1, rfl, by omega, by simp [f0], by simp, rfl, fun y hy => ?_⟩
            rw [htk] at hy
            rcases List.mem_append.1 hy with hy | hy
            · exact hb y hy
            · simp at hy; subst hy; omega
      · have c' : ¬ (i : Int) < s.length := by omega
        rw [List.take_of_length_le (by omega)] at hb
        have hall : s.all (fun c => decide (33 ≤ c.toNat ∧ c.toNat ≤ 126)) = true := by simpa using hb
        have h0 : s ≠ [] := fun h => by rw [h] at c1; simp at c1
        have hd : decide (s.length ≤ 64) = true := by simp; omega
        have hw : wordB s = true := by simp only [wordB, hall, hd]; simp [h0]
        simp [f0, f3, c', hw]
theorem rseen_ev {h : Hp} {k b : Nat} {v : Value} {l : List Ev} (s : List UInt8) (e : RE h k b v l) :
    EvA Try.prog 41 [.pointer (some ⟨b, 0, none⟩), .string (bs s)] (fun r h' => h' = h ∧ r = .tuple #[.int .i64 (seenE l s).1, .bool (seenE l s).2]) h := by
  refine EvA.body Try.func41 rfl (by kernel_rfl) (by simp) ?_
  apply Run.ok
  have hl := e.len
  have l0 := e.l0
  have tl := e.tl
  simp
  refine WpA.loop (fun z fr g => ∃ i, z = l.length - i ∧ i ≤ l.length ∧ fr 0 = .pointer (some ⟨b, 0, none⟩) ∧ fr 1 = .string (bs s) ∧ fr 6 = .int .i64 (i : Nat) ∧ g = h ∧ ∀ x ∈ l.take i, x.id ≠ s)
    (k := l.length) ⟨0, by simp, by omega, by simp, by simp, by simp, rfl, by simp⟩ ?_
  rintro z fr g ⟨i, rfl, hi, f0, f1, f6, rfl, hp⟩
  apply Run.ok
  by_cases c : i < l.length
  · have c' : (i : Int) < l.length := by omega
    have w1 : IntKind.i64.wrap ((i : Int) + 1) = (i : Int) + 1 := wrap_i64 (by omega) (by omega)
    have ia := e.t.ia (P := Try.prog) (t := 61) (e := 94) (by simp) (by simp) c .i64
    have ld0 := e.t.cell0 (P := Try.prog) (f := 9) (by simp) c (by omega)
    have ld1 := e.t.cell (P := Try.prog) (f := 3) (j := 1) (by simp) c (by omega)
    simp only [Ev.cells, List.getElem?_cons_succ, List.getElem?_cons_zero, str] at ld0 ld1
    have htk : l.take (i + 1) = l.take i ++ [l[i]] := by rw [List.take_add_one, List.getElem?_eq_getElem c]; rfl
    by_cases hpx : l[i].id = s
    · have : l.find? (fun x => decide (x.id = s)) = some l[i] := by
        rw [List.find?_eq_some_iff_getElem]
        refine ⟨by simpa using hpx, i, c, rfl, fun j hj => ?_⟩
        have := hp l[j] (List.mem_take_iff_getElem.2 ⟨j, by omega, by simp⟩)
        simpa using this
      have hse : seenE l s = (l[i].pipe, true) := by simp only [seenE, this]
      rw [hpx] at ld0
      simp [f0, f1, f6, l0, tl, c', ia, ld0, ld1, hse, -load_ptr]
    · simp [f0, f1, f6, l0, tl, c', ia, ld0, hpx, w1, -load_ptr, -roundQ_normal, ↓rq]
      refine stop_intro ⟨l.length - (i + 1), by omega, i + 1, rfl, by omega, by simp [f0], by simp [f1], by simp, rfl, fun x hx => ?_⟩
      rw [htk] at hx
      rcases List.mem_append.1 hx with hx | hx
      · exact hp x hx
      · simp at hx; subst hx; exact hpx
  · have c' : ¬ (i : Int) < l.length := by omega
    rw [List.take_of_length_le (by omega)] at hp
    have : l.find? (fun x => decide (x.id = s)) = none := by
      rw [List.find?_eq_none]; intro x hx; simpa using hp x hx
    have hse : seenE l s = (0, false) := by simp only [seenE, this]
    simp [f0, f1, f6, l0, tl, c', hse, -load_ptr]
theorem seenE_any (l : List Ev) (s : List UInt8) : (seenE l s).2 = l.any (fun x => decide (x.id = s)) := by
  unfold seenE
  cases hf : l.find? (fun x => decide (x.id = s)) with
  | some x =>
    have := List.find?_some hf
    exact (List.any_eq_true.2 ⟨x, List.mem_of_find?_eq_some hf, this⟩).symm
  | none =>
    rw [List.find?_eq_none] at hf
    symm; rw [List.any_eq_false]; exact hf
theorem rstr_lay_ev (v : Value) (l : List UInt8) (s : ByteArray) (h : Hp) (hb : Bytes h v l) (hl : l.length < 1099511627676) (hs : s.size ≤ 2147483647) :
    EvA Try.prog 70 [v, .string s] (fun r h' => BAcc h.length h' r (l ++ enc s.size ++ s.data.toList) ∧ Same h h') h := by
  refine EvA.body Try.func70 rfl (by kernel_rfl) (by simp) ?_
  apply Run.ok
  simp
  refine after_call (rcount_lay_ev v l (s.size : Nat) h hb (by omega)) ?_
  rintro r h1 ⟨A1, s1⟩
  have hcb : cntB (s.size : Nat) = enc s.size := by unfold cntB; rw [if_neg (by omega)]; rfl
  have hen : (enc s.size).length ≤ 10 := by rw [enc_length]; exact grps_le _ (by omega)
  rw [hcb] at A1
  simp
  refine after_call (behind_ev r _ s h1 A1.row (by rw [List.length_append]; omega) (by omega)) ?_
  rintro r2 h2 ⟨A2, s2⟩
  have A3 : BAcc h.length h2 r2 (l ++ enc s.size ++ s.data.toList) := Acc.down s1.len A2
  simp
  exact ⟨by simpa only [List.append_assoc] using A3, Same.trans s1 s2⟩
end Go.Proofs.Ytojdhmkjegkfkaa
