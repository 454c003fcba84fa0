/- The document's conditions (bastionref11); no condition. -/
import Derived.Test.YtbamofeocfbjbaaExprF
namespace Go.Proofs.Ytbamofeocfbjbaa
open Go.Ab Go.Glob
/-- there are fewer texts than words -/
theorem texts_le' : ∀ n (ws : List Bs), ws.length ≤ n → (∀ d v t r, termE d ws = .ok v t r → t.length + r.length ≤ ws.length) ∧ (∀ d any part v t r, rowE d any part ws = .ok v t r → t.length + r.length ≤ ws.length) := by
  intro n
  induction n with
  | zero =>
    intro ws hn
    have : ws = [] := List.eq_nil_of_length_eq_zero (by omega)
    subst this
    have ht : ∀ d, termE d [] = .bad 4 := fun d => by rw [termE.eq_def]; rfl
    refine ⟨fun d v t r h => (by rw [ht] at h; cases h), fun d any part v t r h => (by rw [rowE.eq_def, ht] at h; cases h)⟩
  | succ n ih =>
    intro ws hn
    have hT : ∀ d v t r, termE d ws = .ok v t r → t.length + r.length ≤ ws.length := by
      intro d v t r h
      rw [termE.eq_def] at h
      cases hc : cmpA ws with
      | some q =>
        obtain ⟨a, o, b, q⟩ := q
        rw [hc] at h
        obtain ⟨w, rfl, _, _⟩ := cmpA_some hc
        simp only [Out.ok.injEq] at h
        obtain ⟨_, rfl, rfl⟩ := h
        simp; omega
      | none =>
        rw [hc] at h
        cases ws with
        | nil => cases h
        | cons w q =>
          simp only [List.length_cons] at hn
          have := ih q (by omega)
          simp only at h
          split at h
          · split at h
            · cases h
            · have := this.1 _ _ _ _ (Out.neg_ok h); simp; omega
          · split at h
            · split at h
              · cases h
              · have := this.2 _ _ _ _ _ _ (Out.shut_ok h); simp at this ⊢; omega
            · cases h
    refine ⟨hT, fun d any part v t r h => ?_⟩
    rw [rowE_eq] at h
    cases ht : termE d ws with
    | bad e => rw [ht] at h; cases h
    | ok v' t' r' =>
      have hle := hT _ _ _ _ ht
      have hlt := termE_lt ht
      rw [ht] at h
      cases r' with
      | nil => simp only [goOn, Out.ok.injEq] at h; obtain ⟨_, rfl, rfl⟩ := h; exact hle
      | cons w q =>
        simp only [List.length_cons] at hlt hle
        have hq := ih q (by omega)
        simp only [goOn] at h
        split at h
        · obtain ⟨t'', h1, rfl⟩ := Out.pre_ok h; have := hq.2 _ _ _ _ _ _ h1; simp; omega
        · split at h
          · obtain ⟨t'', h1, rfl⟩ := Out.pre_ok h; have := hq.2 _ _ _ _ _ _ h1; simp; omega
          · simp only [Out.ok.injEq] at h; obtain ⟨_, rfl, rfl⟩ := h; simpa using hle
theorem termE_texts {d : Nat} {ws : List Bs} {v : Bool} {t r : List Bs} (h : termE d ws = .ok v t r) : t.length + r.length ≤ ws.length := (texts_le' _ ws (Nat.le_refl _)).1 _ _ _ _ h
theorem rowE_texts {d : Nat} {any part : Bool} {ws : List Bs} {v : Bool} {t r : List Bs} (h : rowE d any part ws = .ok v t r) : t.length + r.length ≤ ws.length := (texts_le' _ ws (Nat.le_refl _)).2 _ _ _ _ _ _ h
theorem drop1 {W : List Bs} {i : Nat} (h : i < W.length) : W.drop i = W[i] :: W.drop (i + 1) := List.drop_eq_getElem_cons h
theorem drop3 {W : List Bs} {i : Nat} (h : i + 2 < W.length) : W.drop i = W[i] :: W[i + 1] :: W[i + 2] :: W.drop (i + 3) := by rw [drop1 (by omega), drop1 (i := i + 1) (by omega), drop1 (i := i + 1 + 1) (by omega)]
theorem cmpA_drop {W : List Bs} {i : Nat} : cmpA (W.drop i) = if h : i + 2 < W.length then (if opN W[i + 1] = 0 then none else some (W[i], opN W[i + 1], W[i + 2], W.drop (i + 3))) else none := by
  split
  · rename_i h
    rw [drop3 h]; rfl
  · rename_i h
    have hl : (W.drop i).length ≤ 2 := by simp; omega
    generalize W.drop i = l at hl
    match l, hl with
    | [], _ => rfl
    | [_], _ => rfl
    | [_, _], _ => rfl
    | _ :: _ :: _ :: _, h => simp at h
section
variable {h g : Hp} {W : List Bs} {w : Value}
theorem WL (hw : SRow h w W) : lenA Try.prog 22 w h = some (.int .i64 (W.length : Nat)) := SRow.len (P := Try.prog) (t := 22) (e := 9) hw (by simp)
theorem WIA (hw : SRow h w W) {i : Nat} (hi : i < W.length) : indexAddrA Try.prog 22 w (.int .i64 (i : Nat)) = some (.pointer (some ⟨rbl w, rof w + i, none⟩)) := SRow.ia (P := Try.prog) (t := 22) (e := 9) hw (by simp) (by simp) hi .i64
theorem WLD (hw : SRow h w W) {i : Nat} (hi : i < W.length) : loadA Try.prog 9 (.pointer (some ⟨rbl w, rof w + i, none⟩)) h = some (.string (bs W[i])) := SRow.ld (P := Try.prog) (f := 9) hw (by simp) hi
theorem compares_ev (hw : SRow h w W) (hl : W.length ≤ 1000000) {i : Nat} (hi : i ≤ W.length) :
    EvA Try.prog 100 [w, .int .i64 (i : Nat)] (fun r h' => h' = h ∧ r = .bool (cmpA (W.drop i)).isSome) h := by
  refine EvA.body Try.func100 rfl (by kernel_rfl) (by simp) ?_
  apply Run.ok
  have wl := WL hw
  have w2 : IntKind.i64.wrap ((i : Int) + 2) = (i : Int) + 2 := wrap_i64 (by omega) (by omega)
  rw [cmpA_drop]
  by_cases c : i + 2 < W.length
  · have c' : (i : Int) + 2 < W.length := by omega
    have w1 : IntKind.i64.wrap ((i : Int) + 1) = ((i + 1 : Nat) : Int) := by rw [wrap_i64 (by omega) (by omega)]; omega
    have ia := WIA hw (i := i + 1) (by omega)
    have ld := WLD hw (i := i + 1) (by omega)
    rw [dif_pos c]
    generalize W[i + 1] = x at ld ⊢
    generalize ((i + 1 : Nat) : Int) = z at w1 ia
    unfold opN
    by_cases c1 : x = [61, 61]
    · simp [wl, w1, w2, c', ia, ld, c1, -load_ptr]
    by_cases c2 : x = [33, 61]
    · simp [wl, w1, w2, c', ia, ld, c2, -load_ptr]
    by_cases c3 : x = [126]
    · simp [wl, w1, w2, c', ia, ld, c3, -load_ptr]
    · simp [wl, w1, w2, c', ia, ld, c1, c2, c3, -load_ptr]
  · have c' : ¬ (i : Int) + 2 < W.length := by omega
    rw [dif_neg c]
    simp [wl, w2, c', -load_ptr]
theorem rtexts_ev {u : Value} {V : List Bs} (hw : SRow h w W) (hu : SRow h u V) (hl : W.length ≤ 1000000000) :
    EvA Try.prog 26 [w, u] (fun r h' => h' = h ∧ r = .bool (decide (W = V))) h := by
  refine EvA.body Try.func26 rfl (by kernel_rfl) (by simp) ?_
  apply Run.ok
  have wl := WL hw
  have ul := WL hu
  by_cases c : W.length = V.length
  · have c' : ((W.length : Int) != (V.length : Int)) = false := by simp; omega
    simp [wl, ul, c', -load_ptr]
    refine WpA.loop (fun z fr g => ∃ i, z = W.length - i ∧ i ≤ W.length ∧ fr 0 = w ∧ fr 1 = u ∧ fr 5 = .int .i64 (i : Nat) ∧ g = h ∧ W.take i = V.take i)
      (k := W.length) ⟨0, by simp, by omega, by simp, by simp, by simp, rfl, by simp⟩ ?_
    rintro z fr g ⟨i, rfl, hi, f0, f1, f5, rfl, hp⟩
    apply Run.ok
    by_cases d : i < W.length
    · have d' : (i : Int) < W.length := by omega
      have w1 : IntKind.i64.wrap ((i : Int) + 1) = (i : Int) + 1 := wrap_i64 (by omega) (by omega)
      have ia := WIA hw d
      have ld := WLD hw d
      have ia2 := WIA hu (i := i) (by omega)
      have ld2 := WLD hu (i := i) (by omega)
      have t1 : W.take (i + 1) = W.take i ++ [W[i]] := by rw [List.take_add_one, List.getElem?_eq_getElem d]; rfl
      have t2 : V.take (i + 1) = V.take i ++ [V[i]] := by rw [List.take_add_one, List.getElem?_eq_getElem (by omega)]; rfl
      simp [f0, f1, f5, wl, d', -load_ptr]
      refine WpA.drawnA [0, 1, 2, 3, 4, 5, 6, 7, 8] [] (by kernel_rfl) (by decide +kernel) (by decide +kernel) ?_
      by_cases e : W[i] = V[i]
      · simp [f0, f1, f5, ia, ia2, ld, ld2, e, w1, -load_ptr, -roundQ_normal, ↓rq]
        refine stop_intro ⟨W.length - (i + 1), by omega, i + 1, rfl, by omega, by simp [f0], by simp [f1], by simp, rfl, by rw [t1, t2, hp, e]⟩
      · have hne : W ≠ V := fun he => by subst he; exact e rfl
        simp [f0, f1, f5, ia, ia2, ld, ld2, e, hne, -load_ptr]
    · have d' : ¬ (i : Int) < W.length := by omega
      rw [List.take_of_length_le (by omega), List.take_of_length_le (by omega)] at hp
      simp [f0, f1, f5, wl, d', -load_ptr]
      exact hp
  · have c' : ((W.length : Int) != (V.length : Int)) = true := by simp; omega
    have hne : W ≠ V := fun he => c (by rw [he])
    simp [wl, ul, c', hne, -load_ptr]
/-- what the document's term and row answer -/
def RPost (h : Hp) (W : List Bs) (out : Out) (r : Value) (h' : Hp) : Prop := Same h h' ∧ ∃ (v : Bool) (lv : Value) (kk e : Nat), r = .tuple #[.bool v, lv, .int .i64 (kk : Nat), .int .i64 (e : Nat)] ∧ cellsOf lv = some [lv] ∧ oneA lv = true ∧
  match out with
  | .bad c => e = c ∧ v = false
  | .ok v' t rest => e = 0 ∧ v = v' ∧ kk ≤ W.length ∧ rest = W.drop kk ∧ SRow h' lv t ∧ (∀ j, inRow lv j → h.length ≤ j ∧ j < h'.length)
def RTerm (n : Nat) : Prop := ∀ (W : List Bs) (i : Nat), W.length ≤ 1000000 → (∀ x ∈ W, x.length < 1000000000) → i ≤ W.length → W.length - i ≤ n → ∀ (h : Hp) (w : Value) (d : Nat), d ≤ 64 → SRow h w W →
  EvA Try.prog 79 [w, .int .i64 (i : Nat), .int .i64 (d : Nat)] (RPost h W (termE d (W.drop i))) h
def RRow (n : Nat) : Prop := ∀ (W : List Bs) (i : Nat), W.length ≤ 1000000 → (∀ x ∈ W, x.length < 1000000000) → i ≤ W.length → W.length - i ≤ n → ∀ (h : Hp) (w : Value) (d : Nat), d ≤ 64 → SRow h w W →
  EvA Try.prog 51 [w, .int .i64 (i : Nat), .int .i64 (d : Nat)] (RPost h W (rowE d false true (W.drop i))) h
end
end Go.Proofs.Ytbamofeocfbjbaa
