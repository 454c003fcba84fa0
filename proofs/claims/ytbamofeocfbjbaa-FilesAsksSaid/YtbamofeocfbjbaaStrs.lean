/- Functions over slices of texts: what they answer; no condition. -/
import Derived.Test.YtbamofeocfbjbaaRMatch
import Derived.Test.YtbamofeocfbjbaaAb32
namespace Go.Proofs.Ytbamofeocfbjbaa
open Go.Ab Go.Glob
/-- a function value that answers p of a text, and leaves memory as it is -/
def Tests (g : Value) (h : Hp) (l : List (List UInt8)) (p : List UInt8 → Bool) : Prop :=
  ∃ f cap, g = .func (.func f) #[] cap ∧ ∀ x ∈ l, EvA Try.prog f (.string (bs x) :: cap.toList) (fun r h' => h' = h ∧ r = .bool (p x)) h
theorem indexFunc_ev {h : Hp} {v g : Value} {l : List (List UInt8)} {p : List UInt8 → Bool} (hv : SRow h v l) (hl : l.length ≤ 1000000000000000) (hg : Tests g h l p) :
    EvA Try.prog 107 [v, g] (fun r h' => h' = h ∧ r = .int .i64 (match l.findIdx? p with | some i => (i : Int) | none => -1)) h := by
  obtain ⟨f, cap, rfl, hg⟩ := hg
  refine EvA.body Try.func107 rfl (by kernel_rfl) (by simp) ?_
  apply Run.ok
  have hlen := SRow.len (P := Try.prog) (t := 22) (e := 9) hv (by simp)
  simp [hlen]
  refine WpA.loop (fun k fr h' => ∃ i, k = l.length - i ∧ i ≤ l.length ∧ fr 0 = v ∧ fr 1 = .func (.func f) #[] cap ∧ fr 7 = .int .i64 (l.length : Nat) ∧ fr 8 = .int .i64 (i : Nat) ∧ h' = h ∧ ∀ x ∈ l.take i, p x = false)
    (k := l.length) ⟨0, by simp, by omega, by simp, by simp, by simp, by simp, rfl, by simp⟩ ?_
  rintro k fr h' ⟨i, rfl, hi, f0, f1, f7, f8, rfl, hp⟩
  apply Run.ok
  by_cases c : i < l.length
  · have c' : (i : Int) < l.length := by omega
    have w1 : IntKind.i64.wrap ((i : Int) + 1) = (i : Int) + 1 := wrap_i64 (by omega) (by omega)
    have ia := SRow.ia (P := Try.prog) (t := 22) (e := 9) hv (by simp) (by simp) c .i64
    have ld := SRow.ld (P := Try.prog) (f := 9) hv (by simp) c
    simp [f0, f1, f7, f8, c', ia, ld, -load_ptr]
    refine after_call (hg l[i] (List.getElem_mem _)) ?_
    rintro r h2 ⟨rfl, rfl⟩
    cases hpx : p l[i] with
    | true =>
      simp [f0, f1, f7, f8]
      have : l.findIdx? p = some i := by
        rw [List.findIdx?_eq_some_iff_getElem]
        refine ⟨c, hpx, fun j hj => ?_⟩
        have := hp l[j] (List.mem_take_iff_getElem.2 ⟨j, by omega, by simp⟩)
        simp [this]
      simp [this]
    | false =>
      simp [f0, f1, f7, f8, w1, -roundQ_normal, ↓rq]
      refine stop_intro ⟨l.length - (i + 1), by omega, i + 1, rfl, by omega, by simp [f0], by simp [f1], by simp [f7], by simp, rfl, fun x hx => ?_⟩
      rw [List.take_add_one, List.getElem?_eq_getElem c] at hx
      rcases List.mem_append.1 hx with hx | hx
      · exact hp x hx
      · simp at hx; subst hx; exact hpx
  · have c' : ¬ (i : Int) < l.length := by omega
    simp [f7, f8, c']
    have : l.findIdx? p = none := by
      rw [List.findIdx?_eq_none_iff]
      intro x hx
      rw [List.take_of_length_le (by omega)] at hp
      exact hp x hx
    simp [this]
theorem containsFunc_ev {h : Hp} {v g : Value} {l : List (List UInt8)} {p : List UInt8 → Bool} (hv : SRow h v l) (hl : l.length ≤ 1000000000000000) (hg : Tests g h l p) :
    EvA Try.prog 86 [v, g] (fun r h' => h' = h ∧ r = .bool (l.any p)) h := by
  refine EvA.body Try.func86 rfl (by kernel_rfl) (by simp) ?_
  apply Run.ok
  simp
  refine after_call (indexFunc_ev hv hl hg) ?_
  rintro r h' ⟨rfl, rfl⟩
  cases hf : l.findIdx? p with
  | none =>
    have : l.any p = false := by rw [List.findIdx?_eq_none_iff] at hf; simpa using hf
    simp [this]
  | some i =>
    have : l.any p = true := by
      rw [List.findIdx?_eq_some_iff_getElem] at hf
      obtain ⟨h1, h2, _⟩ := hf
      exact List.any_eq_true.2 ⟨_, List.getElem_mem _, h2⟩
    simp [this]
/-- texts put behind others -/
theorem appStrs {k : Nat} {h : Hp} {v x : Value} {l m : List (List UInt8)} (ha : Acc k h 1 v l.length (l.map str)) (hk : k ≤ h.length) (hx : SRow h x m) (hb : l.length + m.length ≤ 1000000000000) :
    ∃ v' h', appendA Try.prog 22 22 v x h = some (v', h') ∧ Acc k h' 1 v' (l ++ m).length ((l ++ m).map str) ∧ Upd (inRow v) h h' := by
  obtain ⟨v', h', e1, e2, e3, _⟩ := Acc.append (P := Try.prog) (t := 22) (tx := 22) (e := 9) (by_ := 16) (dx := .slice 9) ha hk (by simp) (by simp) (by simp) rfl hx.2.1 (by simp) (by simp [str, oneA]) (by omega) (by omega)
  exact ⟨v', h', e1, by simpa using e2, e3⟩
theorem appStrs4 {k : Nat} {h : Hp} {v x : Value} {l m : List (List UInt8)} (ha : Acc k h 1 v l.length (l.map str)) (hk : k ≤ h.length) (hx : SRow h x m) (hb : l.length + m.length ≤ 1000000000000) :
    ∃ v' h', appendA Try.prog 22 22 v x h = some (v', h') ∧ Acc k h' 1 v' (l ++ m).length ((l ++ m).map str) ∧ Upd (inRow v) h h' ∧ (∀ j, inRow v' j → inRow v j ∨ h.length ≤ j) := by
  obtain ⟨v', h', e1, e2, e3, e4⟩ := Acc.append (P := Try.prog) (t := 22) (tx := 22) (e := 9) (by_ := 16) (dx := .slice 9) ha hk (by simp) (by simp) (by simp) rfl hx.2.1 (by simp) (by simp [str, oneA]) (by omega) (by omega)
  exact ⟨v', h', e1, by simpa using e2, e3, e4⟩
/-- texts put behind an empty literal -/
theorem litStrs {h : Hp} {x : Value} {m : List (List UInt8)} (hx : SRow h x m) (hb : m.length ≤ 1000000000000) :
    ∃ v' h', appendA Try.prog 22 22 (.slice (some ⟨h.length, 0, none⟩) 0 0) x (h ++ [.cells [] false none]) = some (v', h') ∧ Acc h.length h' 1 v' m.length (m.map str) ∧ Same (h ++ [.cells [] false none]) h' := by
  obtain ⟨v', h', e1, e2, e3, _⟩ := Acc.appendLit (P := Try.prog) (h := h ++ [.cells [] false none]) (z := 1) (k := h.length) (b := h.length) (t := 22) (tx := 22) (e := 9) (by_ := 16) (dx := .slice 9) (Nat.le_refl _) (by simp) (by simp) (by simp) (by simp) rfl (hx.same (Same.new _)).2.1 (by simp) (by omega) (by omega)
  exact ⟨v', h', e1, e2, e3⟩
/-- the text of one cell, made just now -/
theorem SRow.lit (h : Hp) (x : List UInt8) : SRow (h ++ [.cells [.string (bs x)] false none]) (.slice (some ⟨h.length, 0, none⟩) 1 1) [x] := by
  refine ⟨⟨_, _, rfl⟩, ?_, by simp⟩
  simp [srcA, str]
theorem clone_ev {h : Hp} {v : Value} {l : List (List UInt8)} (hv : SRow h v l) (hl : l.length ≤ 1000000000) :
    EvA Try.prog 50 [v] (fun r h' => Acc h.length h' 1 r l.length (l.map str) ∧ Same h h') h := by
  refine EvA.body Try.func50 rfl (by kernel_rfl) (by simp) ?_
  apply Run.ok
  rcases row_nil hv with ⟨rfl, hn⟩ | ⟨a, c, rfl⟩
  · have : l = [] := List.eq_nil_of_length_eq_zero hn
    subst this
    simp
    exact ⟨Acc.nil _, Same.refl⟩
  · obtain ⟨v', h', e1, e2, e3⟩ := appStrs (k := h.length) (h := h ++ [.cells [] false none]) (v := .slice (some ⟨h.length, 0, none⟩) 0 0) (l := []) (m := l) ⟨by simp, .inr (.inl ⟨h.length, rfl, rfl, Nat.le_refl _, by simp⟩)⟩ (by simp) (hv.same (Same.new _)) (by simp; omega)
    simp [zeros, capO, e1]
    exact ⟨by simpa using e2, Upd.trans (Same.new _) e3 fun j hj hin => absurd (inRow_rbl hin) (by simp [rbl]; omega)⟩
end Go.Proofs.Ytbamofeocfbjbaa
