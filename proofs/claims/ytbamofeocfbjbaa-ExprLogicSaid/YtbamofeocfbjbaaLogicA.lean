/- The law of layer 11: words in brackets, rows of words, what holds, what is plain; no condition. -/
import Derived.Test.YtbamofeocfbjbaaLawExprA
import Derived.Test.YtbamofeocfbjbaaPExprB
namespace Go.Proofs.Ytbamofeocfbjbaa
open Go.Ab Go.Glob
section
variable {h g : Hp} {W : List Bs} {w : Value}
theorem rowLit (h : Hp) (xs : List Value) : Row (h ++ [.cells xs false none]) 1 (.slice (some ⟨h.length, 0, none⟩) xs.length xs.length) xs.length xs := by
  refine ⟨⟨_, _, rfl⟩, ?_, by simp⟩
  cases xs <;> simp [srcA]
theorem sLit (h : Hp) (x : Bs) : SRow (h ++ [.cells [.string (bs x)] false none]) (.slice (some ⟨h.length, 0, none⟩) 1 1) [x] := SRow.lit h x
theorem aLit (h : Hp) (x : Bs) : Acc h.length (h ++ [.cells [.string (bs x)] false none]) 1 (.slice (some ⟨h.length, 0, none⟩) 1 1) ([x] : List Bs).length ([x].map str) :=
  Acc.lit (rest := []) (xs := [.string (bs x)]) (n := 1) (c := 1) (op := none) (Nat.le_refl _) (by simp) (by simp) (by simp) (by omega) (by simp [capO])
theorem round_ev (hw : SRow h w W) (hl : W.length ≤ 1000000) : EvA Try.prog 14 [w] (fun r h' => Acc h.length h' 1 r (inB W []).length ((inB W []).map str) ∧ Same h h') h := by
  refine EvA.body Try.func14 rfl (by kernel_rfl) (by simp) ?_
  apply Run.ok
  have s1 : Same h (h ++ [.cells [.string ⟨#[40]⟩] false none]) := Same.new _
  have hl1 : (h ++ [Blk.cells [.string ⟨#[40]⟩] false none]).length = h.length + 1 := by simp
  have A1 := aLit h wOpen
  obtain ⟨v2, g2, e2, A2, u2⟩ := appStrs A1 (by simp) (hw.same s1) (by simp; omega)
  have s2 : Same h g2 := Acc.since A1 s1 u2
  have hl2 := u2.len
  have A3 := sLit g2 wShut
  obtain ⟨v3, g3, e3, A4, u3⟩ := appStrs (A2.same (Same.new _)) (by simp at hl2 ⊢; omega) A3 (by simp; omega)
  have s3 : Same h g3 := Acc.since (A2.same (Same.new _)) (s2.trans (Same.new _)) u3
  simp only [bs, wOpen, wShut] at e2 e3
  simp [zeros, capO, e2, e3]
  refine ⟨?_, s3⟩
  simpa [inB] using A4
/-- rows of words -/
inductive RS (h : Hp) : List Value → List (List Bs) → Prop
  | nil : RS h [] []
  | cons {x : Value} {xs : List Value} {l : List Bs} {ls : List (List Bs)} (hx : SRow h x l) (hr : RS h xs ls) : RS h (x :: xs) (l :: ls)
theorem RS.len {xs : List Value} {ls : List (List Bs)} (r : RS h xs ls) : xs.length = ls.length := by
  induction r with
  | nil => rfl
  | cons _ _ ih => simp [ih]
theorem RS.get {xs : List Value} {ls : List (List Bs)} (r : RS h xs ls) : ∀ {i : Nat} (hi : i < ls.length), ∃ (hx : i < xs.length), SRow h xs[i] ls[i] := by
  induction r with
  | nil => intro i hi; simp at hi
  | cons hx hr ih =>
    intro i hi
    cases i with
    | zero => exact ⟨by simp, hx⟩
    | succ i => obtain ⟨h1, h2⟩ := ih (i := i) (by simpa using hi); exact ⟨by simpa using h1, by simpa using h2⟩
theorem RS.same {xs : List Value} {ls : List (List Bs)} (r : RS h xs ls) (s : Same h g) : RS g xs ls := by
  induction r with
  | nil => exact .nil
  | cons hx hr ih => exact .cons (hx.same s) ih
theorem flat_take (ls : List (List Bs)) (i : Nat) : (ls.take i).flatten.length ≤ ls.flatten.length := by
  conv => rhs; rw [← List.take_append_drop i ls]
  rw [List.flatten_append, List.length_append]; omega
theorem flat_next {ls : List (List Bs)} {i : Nat} (hi : i < ls.length) : (ls.take (i + 1)).flatten = (ls.take i).flatten ++ ls[i] := by
  rw [List.take_add_one, List.getElem?_eq_getElem hi, List.flatten_append]; simp
theorem row11_ev {v : Value} {xs : List Value} {ls : List (List Bs)} (hv : Row h 1 v ls.length xs) (r : RS h xs ls) (hn : ls.length ≤ 1000) {F : List Bs} (hF : ls.flatten = F) (hb : F.length ≤ 1000000) :
    EvA Try.prog 17 [v] (fun r h' => Acc h.length h' 1 r F.length (F.map str) ∧ Same h h') h := by
  refine EvA.body Try.func17 rfl (by kernel_rfl) (by simp) ?_
  apply Run.ok
  have wl := Row.len (P := Try.prog) (t := 66) (e := 22) hv (by simp)
  simp
  refine WpA.loop (fun z fr g => ∃ (i : Nat) (o : Value), z = ls.length - i ∧ i ≤ ls.length ∧ fr 0 = v ∧ fr 3 = o ∧ fr 4 = .int .i64 (i : Nat) ∧ Same h g ∧ Acc h.length g 1 o (ls.take i).flatten.length ((ls.take i).flatten.map str))
    (k := ls.length) ⟨0, _, by simp, by omega, by simp, rfl, by simp, Same.refl, by simpa using Acc.nil _⟩ ?_
  rintro z fr g ⟨i, o, rfl, hi, f0, f3, f4, s, A⟩
  apply Run.ok
  have wl' := Row.len (P := Try.prog) (t := 66) (e := 22) (hv.same s) (by simp)
  by_cases c : i < ls.length
  · have c' : (i : Int) < ls.length := by omega
    have w1 : IntKind.i64.wrap ((i : Int) + 1) = (i : Int) + 1 := wrap_i64 (by omega) (by omega)
    obtain ⟨hx, hr⟩ := r.get c
    have ia := Row.ia1 (P := Try.prog) (t := 66) (e := 22) (hv.same s) (by simp) (by simp) c .i64
    have ld := Row.ld1 (P := Try.prog) (f := 22) (hv.same s) (by simp) c
    rw [List.getElem?_eq_getElem hx] at ld
    have ft := flat_take ls (i + 1)
    rw [flat_next c, hF] at ft
    simp only [List.length_append] at ft
    obtain ⟨v', g', e1, A', u'⟩ := appStrs A (by have := s.len; omega) (hr.same s) (by omega)
    have s' := Acc.since A s u'
    rw [← flat_next c] at A'
    simp [f0, f3, f4, wl', c', ia, ld, e1, w1, -load_ptr, -roundQ_normal, ↓rq]
    exact stop_intro ⟨ls.length - (i + 1), by omega, i + 1, v', rfl, by omega, by simp [f0], by simp, by simp, s', A'⟩
  · have c' : ¬ (i : Int) < ls.length := by omega
    rw [List.take_of_length_le (by omega), hF] at A
    simp [f0, f3, f4, wl', c', -load_ptr]
    exact ⟨A, s⟩
theorem holds11_ev (hw : SRow h w W) (hl : W.length ≤ 1000000) (hsz : ∀ x ∈ W, x.length < 1000000000) :
    EvA Try.prog 16 [w] (fun r h' => Same h h' ∧ r = .tuple #[.bool (valB W), .bool (okB W)]) h := by
  refine EvA.body Try.func16 rfl (by kernel_rfl) (by simp) ?_
  apply Run.ok
  simp
  refine after_call (value_ev hw hl hsz) ?_
  rintro r g ⟨s, rfl⟩
  unfold valB okB
  cases ho : valueE W with
  | bad e => rcases valueE_bad ho with rfl | rfl <;> simp <;> exact s
  | ok v t rest => simp; exact s
theorem plain11_ev (hw : SRow h w W) (hl : W.length ≤ 1000000) (hsz : ∀ x ∈ W, x.length < 1000000000) :
    EvA Try.prog 15 [w] (fun r h' => Same h h' ∧ ∃ b, r = .bool b ∧ (b = true → ∃ v t, Plain W v t)) h := by
  refine EvA.body Try.func15 rfl (by kernel_rfl) (by simp) ?_
  apply Run.ok
  simp
  refine after_call (parse_ev hw hl hsz) ?_
  rintro r g ⟨s, hq⟩
  cases ho : valueE W with
  | bad e =>
    rw [ho] at hq
    obtain rfl := hq
    rcases valueE_bad ho with rfl | rfl <;> simp <;> exact s
  | ok v t rest =>
    rw [ho] at hq
    obtain ⟨htl, b, rfl, R⟩ := hq
    obtain ⟨h1, rfl⟩ := valueE_row ho
    have h3 := (rowE_three h1).1
    have ia : indexAddrA Try.prog 22 w (.int .i64 0) = some (.pointer (some ⟨rbl w, rof w, none⟩)) := WIA (hw.same s) (i := 0) (by omega)
    have ld : loadA Try.prog 9 (.pointer (some ⟨rbl w, rof w, none⟩)) g = some (.string (bs W[0])) := WLD (hw.same s) (i := 0) (by omega)
    have hx : ∀ w q, W = w :: q → w = W[0] := by rintro w q rfl; rfl
    generalize W[0] = x at ld hx
    by_cases c1 : x = [61, 61]
    · simp [ia, ld, c1, -load_ptr]
      exact s
    by_cases c2 : x = [33, 61]
    · simp [ia, ld, c2, -load_ptr]
      exact s
    by_cases c3 : x = [126]
    · simp [ia, ld, c3, -load_ptr]
      exact s
    simp [ia, ld, c1, c2, c3, -load_ptr]
    have pl : Plain W v t := ⟨ho, fun w q e => by rw [hx w q e]; simp [opN, c1, c2, c3]⟩
    refine ⟨s, ?_⟩
    cases v with
    | false => exact .inl ⟨t, pl⟩
    | true => exact .inr ⟨t, pl⟩
theorem opens_ev (hw : SRow h w W) (hl : W.length ≤ 1000000) (ho : ∃ x ∈ W, opN x ≠ 0) :
    EvA Try.prog 27 [w] (fun r h' => h' = h ∧ r = .bool true) h := by
  refine EvA.body Try.func27 rfl (by kernel_rfl) (by simp) ?_
  apply Run.ok
  have wl := WL hw
  simp
  refine WpA.loop (fun z fr g => ∃ (i : Nat), z = W.length - i ∧ i ≤ W.length ∧ fr 0 = w ∧ fr 3 = .int .i64 (i : Nat) ∧ g = h ∧ ∀ x ∈ W.take i, opN x = 0)
    (k := W.length) ⟨0, by simp, by omega, by simp, by simp, rfl, by simp⟩ ?_
  rintro z fr g ⟨i, rfl, hi, f0, f3, rfl, hp⟩
  apply Run.ok
  by_cases c : i < W.length
  · have c' : (i : Int) < W.length := by omega
    have w1 : IntKind.i64.wrap ((i : Int) + 1) = (i : Int) + 1 := wrap_i64 (by omega) (by omega)
    have ia := WIA hw c
    have ld := WLD hw c
    have htk : W.take (i + 1) = W.take i ++ [W[i]] := by rw [List.take_add_one, List.getElem?_eq_getElem c]; rfl
    generalize W[i] = x at ld htk
    by_cases c0 : x = [41]
    · simp [f0, f3, wl, c', ia, ld, c0, -load_ptr]
    by_cases c1 : x = [61, 61]
    · simp [f0, f3, wl, c', ia, ld, c1, -load_ptr]
    by_cases c2 : x = [33, 61]
    · simp [f0, f3, wl, c', ia, ld, c2, -load_ptr]
    by_cases c3 : x = [126]
    · simp [f0, f3, wl, c', ia, ld, c3, -load_ptr]
    simp [f0, f3, wl, c', ia, ld, c0, c1, c2, c3, w1, -load_ptr, -roundQ_normal, ↓rq]
    refine stop_intro ⟨W.length - (i + 1), by omega, i + 1, rfl, by omega, by simp [f0], by simp, rfl, fun y hy => ?_⟩
    rw [htk] at hy
    rcases List.mem_append.1 hy with h1 | h1
    · exact hp y h1
    · simp only [List.mem_singleton] at h1; subst h1; simp [opN, c1, c2, c3]
  · rw [List.take_of_length_le (by omega)] at hp
    obtain ⟨x, h1, h2⟩ := ho
    exact absurd (hp x h1) h2
end
end Go.Proofs.Ytbamofeocfbjbaa
