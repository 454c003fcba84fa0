/- trigger's events: word, find, Take, Seen, List, New: what they answer; no condition. -/
import Derived.Test.YtojdhmkjegkfkaaPickLaw
namespace Go.Proofs.Ytojdhmkjegkfkaa
open Go.Ab
structure Ev where
  id : List UInt8
  pipe : Int
def Ev.cells (x : Ev) : List Value := [str x.id, .int .i64 x.pipe]
/-- events lie there -/
structure EV (h : Hp) (k b : Nat) (a : Value) (l : List Ev) : Prop where
  at_ : h[b]? = some (.cells [a] false none)
  above : k ≤ b
  acc : Acc k h 2 a l.length (l.flatMap Ev.cells)
  ne : ∀ j, inRow a j → j ≠ b
  len : l.length ≤ 8
theorem EV.row {h : Hp} {k b : Nat} {a : Value} {l : List Ev} (e : EV h k b a l) : TRow h 2 a l Ev.cells := ⟨e.acc.row, fun _ _ => rfl⟩
theorem EV.same {h h' : Hp} {k b : Nat} {a : Value} {l : List Ev} (e : EV h k b a l) (u : Same h h') : EV h' k b a l := ⟨u.at e.at_, e.above, e.acc.same u, e.ne, e.len⟩
def wordB (s : List UInt8) : Bool := s.all (fun c => decide (33 ≤ c.toNat ∧ c.toNat ≤ 126)) && decide (s ≠ []) && decide (s.length ≤ 64)
theorem word_ev (s : List UInt8) (hs : s.length ≤ 140737488355320) (h : Hp) : EvA Try.prog 55 [.string (bs s)] (fun r h' => h' = h ∧ r = .bool (wordB s)) h := by
  refine EvA.body Try.func55 rfl (by kernel_rfl) (by simp) ?_
  apply Run.ok
  simp
  refine WpA.loop (fun k fr h' => ∃ i, k = s.length - i ∧ i ≤ s.length ∧ fr 0 = .string (bs s) ∧ fr 5 = .int .i64 (s.length : Nat) ∧ fr 6 = .int .i64 (i : Nat) ∧ h' = h ∧ ∀ c ∈ s.take i, 33 ≤ c.toNat ∧ c.toNat ≤ 126)
    (k := s.length) ⟨0, by simp, by omega, by simp, by simp, by simp, rfl, by simp⟩ ?_
  rintro k fr h' ⟨i, rfl, hi, f0, f5, f6, rfl, hb⟩
  apply Run.ok
  by_cases c : i < s.length
  · have c' : (i : Int) < s.length := by omega
    have w1 : IntKind.i64.wrap ((i : Int) + 1) = (i : Int) + 1 := wrap_i64 (by omega) (by omega)
    have hg : s[i]? = some s[i] := List.getElem?_eq_getElem c
    have htk : s.take (i + 1) = s.take i ++ [s[i]] := by rw [List.take_add_one, hg]; rfl
    have hm : s[i] ∈ s := List.getElem_mem _
    generalize s[i] = x at hg htk hm
    by_cases h1 : (x.toNat : Int) < 33
    · have : wordB s = false := by
        have : s.all (fun c => decide (33 ≤ c.toNat ∧ c.toNat ≤ 126)) = false := List.all_eq_false.2 ⟨x, hm, by simp; omega⟩
        simp only [wordB, this, Bool.false_and]
      simp [f0, f5, f6, c', hg, h1, this]
    · by_cases h2 : (126 : Int) < x.toNat
      · have : wordB s = false := by
          have : s.all (fun c => decide (33 ≤ c.toNat ∧ c.toNat ≤ 126)) = false := List.all_eq_false.2 ⟨x, hm, by simp; omega⟩
          simp only [wordB, this, Bool.false_and]
        simp [f0, f5, f6, c', hg, h1, h2, this]
      · simp [f0, f5, f6, c', hg, h1, h2, w1, -roundQ_normal, ↓rq]
        refine stop_intro ⟨s.length - (i + 1), by omega, i + 1, rfl, by omega, by simp [f0], by simp [f5], by simp, rfl, fun y hy => ?_⟩
        rw [htk] at hy
        rcases List.mem_append.1 hy with hy | hy
        · exact hb y hy
        · simp at hy; subst hy; omega
  · have c' : ¬ (i : Int) < s.length := by omega
    rw [List.take_of_length_le (by omega)] at hb
    have hall : s.all (fun c => decide (33 ≤ c.toNat ∧ c.toNat ≤ 126)) = true := by simpa using hb
    by_cases h0 : s = []
    · simp [f0, f5, f6, c', h0, wordB]
    · have : wordB s = decide (s.length ≤ 64) := by simp only [wordB, hall, Bool.true_and]; simp [h0]
      have hd : decide ((s.length : Int) ≤ 64) = decide (s.length ≤ 64) := by rw [decide_eq_decide]; omega
      simp [f0, f5, f6, c', h0, this, hd]
theorem isId_ev (x : Ev) (s : List UInt8) (b : Nat) (h : Hp) (hb : h[b]? = some (.cells [.string (bs s)] false none)) :
    EvA Try.prog 76 [.agg #[.string (bs x.id), .int .i64 x.pipe], .pointer (some ⟨b, 0, none⟩)] (fun r h' => h' = h ∧ r = .bool (decide (x.id = s))) h := by
  refine EvA.forget (Q := fun r => r = .bool (decide (x.id = s))) ?_
  refine EvA.body Try.func76 rfl (by kernel_rfl) (by simp) ?_
  apply Run.ok
  have hb' : (h ++ [Blk.cells [.string (bs x.id), .int .i64 x.pipe] false none])[b]? = some (.cells [.string (bs s)] false none) := Same.at (Same.new _) hb
  simp [hb', flat, ground]
theorem indexEv_ev {h : Hp} {v : Value} {l : List Ev} (s : List UInt8) (b : Nat) (hb : h[b]? = some (.cells [.string (bs s)] false none)) (hv : TRow h 2 v l Ev.cells) (hl : l.length ≤ 1000000000) :
    EvA Try.prog 75 [v, .func (.func 76) #[] #[.pointer (some ⟨b, 0, none⟩)]] (fun r h' => h' = h ∧ r = .int .i64 (match l.findIdx? (fun x => decide (x.id = s)) with | some i => (i : Int) | none => -1)) h := by
  refine EvA.body Try.func75 rfl (by kernel_rfl) (by simp) ?_
  apply Run.ok
  have hlen := hv.len (P := Try.prog) (t := 44) (e := 47) (by simp)
  simp [hlen]
  refine WpA.loop (fun k fr h' => ∃ i, k = l.length - i ∧ i ≤ l.length ∧ fr 0 = v ∧ fr 1 = .func (.func 76) #[] #[.pointer (some ⟨b, 0, none⟩)] ∧ fr 7 = .int .i64 (l.length : Nat) ∧ fr 8 = .int .i64 (i : Nat) ∧ h' = h ∧ ∀ x ∈ l.take i, x.id ≠ s)
    (k := l.length) ⟨0, by simp, by omega, by simp, by simp, by simp, by simp, rfl, by simp⟩ ?_
  rintro k fr h' ⟨i, rfl, hi, f0, f1, f7, f8, rfl, hp⟩
  apply Run.ok
  by_cases c : i < l.length
  · have c' : (i : Int) < l.length := by omega
    have w1 : IntKind.i64.wrap ((i : Int) + 1) = (i : Int) + 1 := wrap_i64 (by omega) (by omega)
    have ia := hv.ia (P := Try.prog) (t := 44) (e := 47) (by simp) (by simp) c .i64
    have ld := hv.agg (P := Try.prog) (e := 47) (by simp) (by simp) c
    have htk : l.take (i + 1) = l.take i ++ [l[i]] := by rw [List.take_add_one, List.getElem?_eq_getElem c]; rfl
    have ld' : loadA Try.prog 47 (.pointer (some ⟨rbl v, rof v + i * 2, none⟩)) h' = some (.agg #[.string (bs l[i].id), .int .i64 l[i].pipe]) := by rw [ld]; rfl
    simp [f0, f1, f7, f8, c', ia, ld', -load_ptr]
    refine after_call (isId_ev l[i] s b _ hb) ?_
    rintro r h2 ⟨rfl, rfl⟩
    by_cases hpx : l[i].id = s
    · simp [f0, f1, f7, f8, hpx]
      have : l.findIdx? (fun x => decide (x.id = s)) = some i := by
        rw [List.findIdx?_eq_some_iff_getElem]
        refine ⟨c, by simpa using hpx, fun j hj => ?_⟩
        have := hp l[j] (List.mem_take_iff_getElem.2 ⟨j, by omega, by simp⟩)
        simp [this]
      simp [this]
    · simp [f0, f1, f7, f8, w1, hpx, -roundQ_normal, ↓rq]
      refine stop_intro ⟨l.length - (i + 1), by omega, i + 1, rfl, by omega, by simp [f0], by simp [f1], by simp [f7], by simp, rfl, fun x hx => ?_⟩
      rw [htk] at hx
      rcases List.mem_append.1 hx with hx | hx
      · exact hp x hx
      · simp at hx; subst hx; exact hpx
  · have c' : ¬ (i : Int) < l.length := by omega
    simp [f7, f8, c']
    have : l.findIdx? (fun x => decide (x.id = s)) = none := by
      rw [List.findIdx?_eq_none_iff]
      intro x hx
      rw [List.take_of_length_le (by omega)] at hp
      simpa using hp x hx
    simp [this]
theorem find_ev {h : Hp} {k b : Nat} {a : Value} {l : List Ev} (s : List UInt8) (e : EV h k b a l) :
    EvA Try.prog 56 [.pointer (some ⟨b, 0, none⟩), .string (bs s)] (fun r h' => h' = h ∧ r = .int .i64 (match l.findIdx? (fun x => decide (x.id = s)) with | some i => (i : Int) | none => -1)) h := by
  refine EvA.forget (Q := fun r => r = .int .i64 (match l.findIdx? (fun x => decide (x.id = s)) with | some i => (i : Int) | none => -1)) ?_
  refine EvA.body Try.func56 rfl (by kernel_rfl) (by simp) ?_
  apply Run.ok
  have e' := e.same (Same.new [.cells [.string (bs s)] false none])
  have hb := e'.at_
  have hl := e.len
  simp [hb]
  refine after_call (indexEv_ev s h.length (by simp) e'.row (by omega)) ?_
  rintro r h' ⟨rfl, rfl⟩
  simp [flat, ground]
theorem enew_ev (h : Hp) : EvA Try.prog 30 [] (fun r h' => r = .pointer (some ⟨h.length, 0, none⟩) ∧ Same h h' ∧ EV h' h.length h.length (.slice none 0 0) []) h := by
  refine EvA.body Try.func30 rfl (by kernel_rfl) (by simp) ?_
  apply Run.ok
  simp
  exact ⟨Same.new _, ⟨by simp, Nat.le_refl _, Acc.nil _, fun j hj => (by obtain ⟨a, n, c, he, _⟩ := hj; cases he), by simp⟩⟩
/-- Seen, as the document has it -/
def seenE (l : List Ev) (s : List UInt8) : Int × Bool := match l.find? (fun x => decide (x.id = s)) with | some x => (x.pipe, true) | none => (0, false)
theorem seen_ev {h : Hp} {k b : Nat} {a : Value} {l : List Ev} (s : List UInt8) (e : EV h k b a l) :
    EvA Try.prog 33 [.pointer (some ⟨b, 0, none⟩), .string (bs s)] (fun r h' => h' = h ∧ r = .tuple #[.int .i64 (seenE l s).1, .bool (seenE l s).2]) h := by
  refine EvA.body Try.func33 rfl (by kernel_rfl) (by simp) ?_
  apply Run.ok
  simp
  refine after_call (find_ev s e) ?_
  rintro r h' ⟨rfl, rfl⟩
  cases hf : l.findIdx? (fun x => decide (x.id = s)) with
  | none =>
    have : l.find? (fun x => decide (x.id = s)) = none := by
      rw [List.findIdx?_eq_none_iff] at hf; simpa using hf
    simp [seenE, this]
  | some i =>
    have hfi := hf
    rw [List.findIdx?_eq_some_iff_getElem] at hfi
    obtain ⟨hi, hp, hlt⟩ := hfi
    have : l.find? (fun x => decide (x.id = s)) = some l[i] := by
      rw [List.find?_eq_some_iff_getElem]
      exact ⟨hp, i, hi, rfl, fun j hj => by simpa using hlt j hj⟩
    have l0 := load_at (P := Try.prog) (t := 44) (o := 0) e.at_ (by simp)
    have ia := e.row.ia (P := Try.prog) (t := 44) (e := 47) (by simp) (by simp) hi .i64
    have ld := e.row.cell (P := Try.prog) (f := 3) (j := 1) (by simp) hi (by omega)
    simp only [Ev.cells, List.getElem?_cons_succ, List.getElem?_cons_zero] at ld l0
    have hn : ¬ ((i : Int) < 0) := by omega
    simp [seenE, this, l0, ia, ld, hn, -load_ptr]
end Go.Proofs.Ytojdhmkjegkfkaa
