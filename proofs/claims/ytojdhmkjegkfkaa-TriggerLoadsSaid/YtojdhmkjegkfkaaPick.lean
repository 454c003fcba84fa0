/- glob.Any, glob.Pick, and bastionref10's: what they answer; the law GlobPicks; no condition. -/
import Derived.Test.YtojdhmkjegkfkaaStrs
import Derived.Test.YtojdhmkjegkfkaaLawGlobA
namespace Go.Proofs.Ytojdhmkjegkfkaa
open Go.Ab Go.Glob
noncomputable def anyM (p : List (List UInt8)) (s : List UInt8) : Bool := p.any fun q => M q s
theorem any1_ev (q s : List UInt8) (b : Nat) (h : Hp) (hb : h[b]? = some (.cells [.string (bs s)] false none)) (hs : s.length < 1000000000) :
    EvA Try.prog 51 [.string (bs q), .pointer (some ⟨b, 0, none⟩)] (fun r h' => h' = h ∧ r = .bool (M q s)) h := by
  refine EvA.body Try.func51 rfl (by kernel_rfl) (by simp) ?_
  apply Run.ok
  simp [hb]
  refine after_call (match_ev q s _ hs) ?_
  rintro r h' ⟨rfl, rfl⟩
  simp
theorem any_ev {h : Hp} {v : Value} {p : List (List UInt8)} (s : List UInt8) (hv : SRow h v p) (hl : p.length ≤ 1000000000000000) (hs : s.length < 1000000000) :
    EvA Try.prog 24 [v, .string (bs s)] (fun r h' => h' = h ∧ r = .bool (anyM p s)) h := by
  refine EvA.forget (Q := fun r => r = .bool (anyM p s)) ?_
  refine EvA.body Try.func24 rfl (by kernel_rfl) (by simp) ?_
  apply Run.ok
  simp
  refine after_call (containsFunc_ev (p := fun q => M q s) (hv.same (Same.new _)) hl ⟨51, _, rfl, fun x _ => any1_ev x s h.length _ (by simp) hs⟩) ?_
  rintro r h' ⟨rfl, rfl⟩
  simp [anyM, flat, ground]
theorem rany_ev {h : Hp} {v : Value} {p : List (List UInt8)} (s : List UInt8) (hv : SRow h v p) (hl : p.length ≤ 1000000000000000) (hs : s.length < 1000000000) :
    EvA Try.prog 25 [v, .string (bs s)] (fun r h' => h' = h ∧ r = .bool (anyM p s)) h := by
  refine EvA.body Try.func25 rfl (by kernel_rfl) (by simp) ?_
  apply Run.ok
  have hlen := SRow.len (P := Try.prog) (t := 23) (e := 9) hv (by simp)
  simp
  refine WpA.loop (fun k fr h' => ∃ i, k = p.length - i ∧ i ≤ p.length ∧ fr 0 = v ∧ fr 1 = .string (bs s) ∧ fr 5 = .int .i64 (i : Nat) ∧ h' = h ∧ ∀ x ∈ p.take i, M x s = false)
    (k := p.length) ⟨0, by simp, by omega, by simp, by simp, by simp, rfl, by simp⟩ ?_
  rintro k fr h' ⟨i, rfl, hi, f0, f1, f5, rfl, hp⟩
  apply Run.ok
  by_cases c : i < p.length
  · have c' : (i : Int) < p.length := by omega
    have w1 : IntKind.i64.wrap ((i : Int) + 1) = (i : Int) + 1 := wrap_i64 (by omega) (by omega)
    have ia := SRow.ia (P := Try.prog) (t := 23) (e := 9) hv (by simp) (by simp) c .i64
    have ld := SRow.ld (P := Try.prog) (f := 9) hv (by simp) c
    simp [f0, f1, f5, hlen, c', ia, ld, -load_ptr]
    refine after_call (rmatch_ev p[i] s _ hs) ?_
    rintro r h2 ⟨rfl, rfl⟩
    cases hpx : M p[i] s with
    | true =>
      have : anyM p s = true := List.any_eq_true.2 ⟨p[i], List.getElem_mem _, hpx⟩
      simp [this]
    | false =>
      simp [f0, f1, f5, w1, -roundQ_normal, ↓rq]
      refine stop_intro ⟨p.length - (i + 1), by omega, i + 1, rfl, by omega, by simp [f0], by simp [f1], by simp, rfl, fun x hx => ?_⟩
      rw [List.take_add_one, List.getElem?_eq_getElem c] at hx
      rcases List.mem_append.1 hx with hx | hx
      · exact hp x hx
      · simp at hx; subst hx; exact hpx
  · have c' : ¬ (i : Int) < p.length := by omega
    rw [List.take_of_length_le (by omega)] at hp
    have : anyM p s = false := by simpa [anyM] using hp
    simp [f0, f5, hlen, c', this]
theorem rpick_ev {h : Hp} {v w : Value} {p l : List (List UInt8)} (hv : SRow h v p) (hw : SRow h w l) (hp : p.length ≤ 1000000000000) (hl : l.length ≤ 1000000000) (hs : ∀ x ∈ l, x.length < 1000000000) :
    EvA Try.prog 26 [v, w] (fun r h' => Acc h.length h' 1 r (l.filter (anyM p)).length ((l.filter (anyM p)).map str) ∧ Same h h') h := by
  refine EvA.body Try.func26 rfl (by kernel_rfl) (by simp) ?_
  apply Run.ok
  simp
  refine WpA.loop (fun k fr h' => ∃ i a, k = l.length - i ∧ i ≤ l.length ∧ fr 0 = v ∧ fr 1 = w ∧ fr 5 = a ∧ fr 6 = .int .i64 (i : Nat) ∧ Same h h' ∧ Acc h.length h' 1 a ((l.take i).filter (anyM p)).length (((l.take i).filter (anyM p)).map str))
    (k := l.length) ⟨0, _, by simp, by omega, by simp, by simp, rfl, by simp, Same.refl, by simpa using Acc.nil _⟩ ?_
  rintro k fr h' ⟨i, a, rfl, hi, f0, f1, f5, f6, sm, ha⟩
  apply Run.ok
  have hlen := SRow.len (P := Try.prog) (t := 23) (e := 9) (hw.same sm) (by simp)
  by_cases c : i < l.length
  · have c' : (i : Int) < l.length := by omega
    have w1 : IntKind.i64.wrap ((i : Int) + 1) = (i : Int) + 1 := wrap_i64 (by omega) (by omega)
    have ia := SRow.ia (P := Try.prog) (t := 23) (e := 9) (hw.same sm) (by simp) (by simp) c .i64
    have ld := SRow.ld (P := Try.prog) (f := 9) (hw.same sm) (by simp) c
    have htk : l.take (i + 1) = l.take i ++ [l[i]] := by rw [List.take_add_one, List.getElem?_eq_getElem c]; rfl
    simp [f0, f1, f5, f6, hlen, c', ia, ld, -load_ptr]
    refine after_call (rany_ev l[i] (hv.same sm) (by omega) (hs _ (List.getElem_mem _))) ?_
    rintro r h2 ⟨rfl, rfl⟩
    cases hpx : anyM p l[i] with
    | true =>
      obtain ⟨v', h3, e1, e2, e3⟩ := appStrs (m := [l[i]]) (ha.same (Same.new _)) (by have := sm.len; simp; omega) (SRow.lit h2 l[i]) (by
        have := List.length_filter_le (anyM p) (l.take i); simp at this ⊢; omega)
      simp [f0, f1, f5, f6, hlen, c', ia, ld, -load_ptr, e1, w1, zeros, capO, -roundQ_normal, ↓rq]
      refine stop_intro ⟨l.length - (i + 1), by omega, i + 1, v', rfl, by omega, by simp [f0], by simp [f1], by simp, by simp, ?_, ?_⟩
      · exact Acc.since (ha.same (Same.new _)) (sm.trans (Same.new _)) e3
      · rw [htk, List.filter_append]; simpa [hpx] using e2
    | false =>
      simp [f0, f1, f5, f6, w1, -roundQ_normal, ↓rq]
      refine stop_intro ⟨l.length - (i + 1), by omega, i + 1, a, rfl, by omega, by simp [f0], by simp [f1], by simp [f5], by simp, sm, ?_⟩
      rw [htk, List.filter_append]; simpa [hpx] using ha
  · have c' : ¬ (i : Int) < l.length := by omega
    rw [List.take_of_length_le (by omega)] at ha
    simp [f0, f1, f5, f6, hlen, c']
    exact ⟨ha, sm⟩
theorem pick1_ev {h : Hp} {v : Value} {p : List (List UInt8)} (s : List UInt8) (b : Nat) (hb : h[b]? = some (.cells [v] false none)) (hv : SRow h v p) (hl : p.length ≤ 1000000000000000) (hs : s.length < 1000000000) :
    EvA Try.prog 54 [.string (bs s), .pointer (some ⟨b, 0, none⟩)] (fun r h' => h' = h ∧ r = .bool (!anyM p s)) h := by
  refine EvA.body Try.func54 rfl (by kernel_rfl) (by simp) ?_
  apply Run.ok
  simp [hb]
  refine after_call (any_ev s hv hl hs) ?_
  rintro r h' ⟨rfl, rfl⟩
  simp
theorem deleteFunc_ev {k : Nat} {h : Hp} {v g : Value} {l : List (List UInt8)} {p : List UInt8 → Bool} (hv : Wr k h 1 v l.length (l.map str)) (hl : l.length ≤ 1000000000000000) (hg : ∀ h', Upd (· = rbl v) h h' → Tests g h' l p) :
    EvA Try.prog 52 [v, g] (fun r h' => Wr k h' 1 r (l.filter fun x => !p x).length ((l.filter fun x => !p x).map str) ∧ Upd (fun j => j = rbl v ∧ l ≠ []) h h' ∧ ∀ j, inRow r j → inRow v j) h := by
  refine EvA.body Try.func52 rfl (by kernel_rfl) (by simp) ?_
  apply Run.ok
  simp
  refine after_call (indexFunc_ev (l := l) hv.row hl (hg h Upd.refl)) ?_
  rintro r h' ⟨rfl, rfl⟩
  cases hf : l.findIdx? p with
  | none =>
    rw [List.findIdx?_eq_none_iff] at hf
    have : l.filter (fun x => !p x) = l := List.filter_eq_self.2 fun x hx => by simp [hf x hx]
    simp
    rw [this]
    exact ⟨hv, Upd.refl⟩
  | some i0 =>
    rw [List.findIdx?_eq_some_iff_getElem] at hf
    obtain ⟨hi0, hp0, hlt0⟩ := hf
    have hne : ((i0 : Int) == -1) = false := by simp
    have w0 : IntKind.i64.wrap ((i0 : Int) + 1) = ((i0 + 1 : Nat) : Int) := by rw [wrap_i64 (by omega) (by omega)]; simp
    simp [hne, w0]
    have hf0 : (l.take (i0 + 1)).filter (fun x => !p x) = l.take i0 := by
      rw [List.take_add_one, List.getElem?_eq_getElem hi0]
      simp only [Option.toList_some, List.filter_append]
      rw [List.filter_eq_self.2]
      · simp [hp0]
      · intro x hx
        obtain ⟨j, hj, rfl⟩ := List.mem_take_iff_getElem.1 hx
        have := hlt0 j (by omega)
        simpa using this
    refine WpA.loop (fun m fr h2 => ∃ i j cur, m = l.length - j ∧ j ≤ l.length ∧ i ≤ j ∧ fr 0 = v ∧ fr 1 = g ∧ fr 5 = .int .i64 (i : Nat) ∧ fr 6 = .int .i64 (j : Nat) ∧ Upd (· = rbl v) h' h2 ∧
        List.length cur = l.length ∧ cur.take i = (l.take j).filter (fun x => !p x) ∧ (∀ q, j ≤ q → cur[q]? = l[q]?) ∧ Wr k h2 1 v l.length (cur.map str))
      (k := l.length - (i0 + 1)) ⟨i0, i0 + 1, l, rfl, by omega, by omega, by simp, by simp, by simp, by simp, Upd.refl, rfl, by rw [hf0], fun _ _ => rfl, hv⟩ ?_
    rintro m fr h2 ⟨i, j, cur, rfl, hj, hij, f0, f1, f5, f6, up, hcl, hct, hcr, hwr⟩
    apply Run.ok
    have hrow : SRow h2 v cur := by have := hwr.row; unfold SRow; rw [hcl]; exact this
    have hlen := SRow.len (P := Try.prog) (t := 23) (e := 9) hrow (by simp)
    by_cases c : j < l.length
    · have c2 : j < cur.length := by omega
      have c' : (j : Int) < cur.length := by omega
      have w1 : IntKind.i64.wrap ((j : Int) + 1) = (j : Int) + 1 := wrap_i64 (by omega) (by omega)
      have w2 : IntKind.i64.wrap ((i : Int) + 1) = (i : Int) + 1 := wrap_i64 (by omega) (by omega)
      have ia := SRow.ia (P := Try.prog) (t := 23) (e := 9) hrow (by simp) (by simp) c2 .i64
      have ld := SRow.ld (P := Try.prog) (f := 9) hrow (by simp) c2
      have ia2 := SRow.ia (P := Try.prog) (t := 23) (e := 9) hrow (by simp) (by simp) (show i < cur.length by omega) .i64
      have hcj : cur[j] = l[j] := by
        have := hcr j (Nat.le_refl _)
        rw [List.getElem?_eq_getElem c2, List.getElem?_eq_getElem c] at this
        simpa using this
      have htk : l.take (j + 1) = l.take j ++ [l[j]] := by rw [List.take_add_one, List.getElem?_eq_getElem c]; rfl
      simp [f0, f1, f5, f6, hlen, c', ia, ld, -load_ptr]
      obtain ⟨f, cap, rfl, hcall⟩ := hg h2 up
      simp
      rw [hcj]
      refine after_call (hcall l[j] (List.getElem_mem _)) ?_
      rintro r h3 ⟨rfl, rfl⟩
      cases hpx : p l[j] with
      | true =>
        simp [f0, f1, f5, f6, w1, -roundQ_normal, ↓rq]
        refine stop_intro ⟨l.length - (j + 1), by omega, i, j + 1, cur, rfl, by omega, by omega, by simp [f0], by simp [f1], by simp [f5], by simp, up, hcl, ?_, fun q hq => hcr q (by omega), hwr⟩
        rw [hct, htk, List.filter_append]; simp [hpx]
      | false =>
        obtain ⟨h4, e1, e2, e3, e4⟩ := hwr.store1 (P := Try.prog) (e := 9) (x := str l[j]) (j := i) (by simp) rfl (by omega)
        simp only [str] at e1
        simp [f0, f1, f5, f6, w1, w2, ia2, e1, -store_ptr, -roundQ_normal, ↓rq]
        have hset : (cur.map str).set i (str l[j]) = (cur.set i l[j]).map str := by rw [List.map_set]
        rw [hset] at e2
        refine stop_intro ⟨l.length - (j + 1), by omega, i + 1, j + 1, cur.set i l[j], rfl, by omega, by omega, by simp [f0], by simp [f1], by simp, by simp, Upd.trans up e3 (fun _ _ h => h), by simpa using hcl, ?_, fun q hq => ?_, e2⟩
        · rw [htk, List.filter_append, ← hct, List.take_add_one, List.getElem?_set_self (by omega)]
          simp [hpx]
          rw [List.take_set_of_le (Nat.le_refl _)]
        · rw [List.getElem?_set_ne (by omega)]; exact hcr q (by omega)
    · have c' : ¬ (j : Int) < cur.length := by omega
      have hjl : j = l.length := by omega
      subst hjl
      rw [List.take_of_length_le (Nat.le_refl _)] at hct
      obtain ⟨v1, h3, e1, e2, e3, e4⟩ := hwr.clearFrom (P := Try.prog) (t := 23) (e := 9) (x := .string ⟨#[]⟩) (q := .i64) (m := i) (by simp) (by simp) (by simp) rfl hij
      obtain ⟨v2, g1, g2, g3⟩ := e3.hi (P := Try.prog) (t := 23) (e := 9) (q := .i64) (m := i) (by simp) (by simp) hij
      simp [f0, f1, f5, f6, hlen, c', e1, e2, g1]
      have hi2 : (l.filter fun x => !p x).length = i := by rw [← hct]; simp; omega
      have hnel : l ≠ [] := by intro h0; rw [h0] at hi0; simp at hi0
      refine ⟨?_, (Upd.trans (S := (· = rbl v)) up e4 (fun _ _ h => h)).mono fun _ _ h => ⟨h, hnel⟩, g3⟩
      rw [hi2, ← hct]
      have : ((cur.map str).take i ++ List.replicate (l.length - i) (Value.string ⟨#[]⟩)).take (i * 1) = (cur.take i).map str := by
        rw [Nat.mul_one, List.take_append_of_le_length (by simp; omega), List.take_take, Nat.min_self, List.map_take]
      rw [this] at g2; exact g2
theorem gpick_ev {h : Hp} {v w : Value} {p l : List (List UInt8)} (hv : SRow h v p) (hw : SRow h w l) (hp : p.length ≤ 1000000000000) (hl : l.length ≤ 1000000000) (hs : ∀ x ∈ l, x.length < 1000000000) :
    EvA Try.prog 27 [v, w] (fun r h' => Wr h.length h' 1 r (l.filter (anyM p)).length ((l.filter (anyM p)).map str) ∧ Same h h') h := by
  refine EvA.body Try.func27 rfl (by kernel_rfl) (by simp) ?_
  apply Run.ok
  simp [Row.box hv]
  refine after_call (clone_ev (hw.same (Same.new _)) hl) ?_
  rintro r h' ⟨ha, sm⟩
  simp
  have hb : h'[h.length]? = some (.cells [v] false none) := sm.at (by simp)
  have hsv : SRow h' v p := (hv.same (Same.new _)).same sm
  have hwr : Wr h.length h' 1 r l.length (l.map str) := (Acc.down (by simp) ha).wr
  have hab : 0 < l.length → h.length < rbl r := fun h0 => by have := (ha.above _ (hwr.row.inRow h0)).1; simp at this; omega
  refine after_call (deleteFunc_ev (k := h.length) (p := fun x => !anyM p x) hwr (by omega) (fun h2 up => ⟨54, _, rfl, fun x hx => ?_⟩)) ?_
  · have h0 : 0 < l.length := by cases l with | nil => simp at hx | cons _ _ => simp
    have h1 := hab h0
    exact pick1_ev x h.length (up.at hb (by omega)) (hsv.keep up (fun h2 => by have := Row.lt hv h2; omega)) (by omega) (hs x hx)
  · rintro r2 h3 ⟨hr2, up, hin⟩
    simp
    have hfil : (fun x => !(!anyM p x)) = anyM p := by funext x; simp
    rw [hfil] at hr2
    refine ⟨hr2, Upd.trans (Same.trans (Same.new _) sm) up fun j hj hin => ?_⟩
    have h0 : 0 < l.length := by cases l with | nil => exact absurd rfl hin.2 | cons _ _ => simp
    have := hab h0
    omega
end Go.Proofs.Ytojdhmkjegkfkaa
