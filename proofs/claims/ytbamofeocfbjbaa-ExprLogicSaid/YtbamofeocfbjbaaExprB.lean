/- The parser of conditions: its calls; no condition. -/
import Derived.Test.YtbamofeocfbjbaaExprA
namespace Go.Proofs.Ytbamofeocfbjbaa
open Go.Ab Go.Glob
/-- texts that may be cut -/
def SlS (h : Hp) (v : Value) (l : List Bs) : Prop := Sl h 1 v l.length (l.map str)
theorem SlS.lo {P : Program} {h : Hp} {t e : TypeId} {v : Value} {l : List Bs} {k : IntKind} {m : Nat} (hs : SlS h v l) (ht : P.underlying t = some (.slice e)) (he : sizeT P e = some 1) (hm : m ≤ l.length) :
    ∃ v', (∀ g, Same h g → sliceA P t v (some (.int k (m : Int))) none none g = some v') ∧ SlS h v' (l.drop m) ∧ ∀ k, inRow v' k → inRow v k := by
  obtain ⟨v', e1, e2, e3⟩ := Sl.cut (P := P) (lo := some (.int k (m : Int))) (hi := none) (l := m) (m := l.length) hs ht he (fun c hc => by rw [bnds_l, if_pos (by omega)]; simp) (by omega) (Nat.le_refl _)
  refine ⟨v', e1, ?_, e3⟩
  have : (l.drop m).length = l.length - m := by simp
  simp only [SlS, this]
  simp only [Nat.mul_one] at e2
  rw [List.take_of_length_le (by simp)] at e2
  rw [List.map_drop]; exact e2
/-- a parser: its words, its texts, how deep it is -/
structure PS (h : Hp) (pb k : Nat) (wv tv : Value) (ws ts : List Bs) (d : Nat) : Prop where
  at_ : h[pb]? = some (.cells [wv, tv, .int .i64 (d : Nat)] false none)
  wr : SlS h wv ws
  tr : Acc k h 1 tv ts.length (ts.map str)
  pk : pb < k
  wk : ∀ j, inRow wv j → j < k ∧ j ≠ pb
  kh : k ≤ h.length
  sz : ∀ w ∈ ws, w.length < 1000000000
  few : ws.length + ts.length ≤ 1000000
  dl : d ≤ 64
section
variable {h h' g : Hp} {pb k d : Nat} {wv tv : Value} {ws ts : List Bs} {S : Nat → Prop}
theorem PS.upd (m : PS h pb k wv tv ws ts d) (u : Upd S h h') (h1 : ∀ j, S j → k ≤ j ∧ ¬ inRow tv j) : PS h' pb k wv tv ws ts d :=
  ⟨u.at m.at_ (fun hs => by have := (h1 _ hs).1; have := m.pk; omega), Sl.upd m.wr u (fun j hj hs => by have := (h1 _ hs).1; have := (m.wk j hj).1; omega), m.tr.upd u (fun j hj hs => (h1 _ hs).2 hj), m.pk, m.wk, by have := u.len; have := m.kh; omega, m.sz, m.few, m.dl⟩
theorem PS.same (m : PS h pb k wv tv ws ts d) (u : Same h h') : PS h' pb k wv tv ws ts d := m.upd u fun _ h => h.elim
theorem PS.tpb (m : PS h pb k wv tv ws ts d) : ¬ inRow tv pb := fun hin => by have := (m.tr.above _ hin).1; have := m.pk; omega
/-- the parser's cells are written -/
theorem PS.put {wv' tv' : Value} {ws' ts' : List Bs} {d' : Nat} (m : PS h pb k wv tv ws ts d) (hw : SlS h wv' ws') (hj : ∀ j, inRow wv' j → inRow wv j) (ht : Acc k h 1 tv' ts'.length (ts'.map str)) (hs : ∀ w ∈ ws', w ∈ ws) (hf : ws'.length + ts'.length ≤ ws.length + ts.length) (hd : d' ≤ 64) :
    PS (h.set pb (.cells [wv', tv', .int .i64 (d' : Nat)] false none)) pb k wv' tv' ws' ts' d' ∧ Upd (· = pb) h (h.set pb (.cells [wv', tv', .int .i64 (d' : Nat)] false none)) := by
  have u : Upd (· = pb) h (h.set pb (.cells [wv', tv', .int .i64 (d' : Nat)] false none)) := Upd.set (S := (· = pb)) rfl _
  have hl := hp_lt m.at_
  refine ⟨⟨by simp [hl], Sl.upd hw u (fun j hj' e => (m.wk j (hj j hj')).2 e), ht.upd u (fun j hj' e => by have := (ht.above j hj').1; have := m.pk; omega), m.pk, fun j hj' => m.wk j (hj j hj'), by have := m.kh; simpa using this, fun w hw' => m.sz w (hs w hw'), by have := m.few; omega, hd⟩, u⟩
theorem PS.wl (m : PS h pb k wv tv ws ts d) : lenA Try.prog 22 wv h = some (.int .i64 (ws.length : Nat)) := Row.len (P := Try.prog) (t := 22) (e := 9) m.wr.1 (by simp) |>.trans (by simp)
theorem PS.l0 (m : PS h pb k wv tv ws ts d) : loadA Try.prog 22 (.pointer (some ⟨pb, 0, none⟩)) h = some wv := by rw [load_at m.at_ (by simp)]; rfl
theorem PS.l1 (m : PS h pb k wv tv ws ts d) : loadA Try.prog 22 (.pointer (some ⟨pb, 1, none⟩)) h = some tv := by rw [load_at m.at_ (by simp)]; rfl
theorem PS.l2 (m : PS h pb k wv tv ws ts d) : loadA Try.prog 3 (.pointer (some ⟨pb, 2, none⟩)) h = some (.int .i64 (d : Nat)) := by rw [load_at m.at_ (by simp)]; rfl
theorem PS.ia (m : PS h pb k wv tv ws ts d) {i : Nat} (hi : i < ws.length) : indexAddrA Try.prog 22 wv (.int .i64 (i : Int)) = some (.pointer (some ⟨rbl wv, rof wv + i, none⟩)) :=
  SRow.ia (P := Try.prog) (t := 22) (e := 9) (show SRow h wv ws from m.wr.1) (by simp) (by simp) hi .i64
theorem PS.ld (m : PS h pb k wv tv ws ts d) {i : Nat} (hi : i < ws.length) : loadA Try.prog 9 (.pointer (some ⟨rbl wv, rof wv + i, none⟩)) h = some (.string (bs ws[i])) :=
  SRow.ld (P := Try.prog) (f := 9) (show SRow h wv ws from m.wr.1) (by simp) hi
/-- what a call of the parser's leaves -/
def Post (h : Hp) (pb k : Nat) (tv : Value) (ts : List Bs) (d : Nat) (out : Out) (r : Value) (h' : Hp) : Prop :=
  ∃ (x : Value) (e : Nat), r = .tuple #[x, .int .i64 (e : Nat)] ∧ cellsOf x = some [x] ∧ oneA x = true ∧ Upd (fun j => j = pb ∨ inRow tv j) h h' ∧
    match out with
    | .bad c => e = c ∧ ∃ wv' tv', h'[pb]? = some (.cells [wv', tv', .int .i64 (d : Nat)] false none)
    | .ok v t rest => e = 0 ∧ ∃ wv' tv', PS h' pb k wv' tv' rest (ts ++ t) d ∧ (∀ j, inRow tv' j → inRow tv j ∨ h.length ≤ j) ∧ Means (fun j => h.length ≤ j ∧ j < h'.length ∧ ¬ inRow tv' j) h' x v
theorem Post.up {out : Out} {r : Value} (u : Upd (fun j => j = pb ∨ inRow tv j) h g) (q : Post g pb k tv ts d out r h') : Post h pb k tv ts d out r h' := by
  obtain ⟨x, e, rfl, hc, ho, hu, hq⟩ := q
  have hl := u.len
  refine ⟨x, e, rfl, hc, ho, Upd.trans u hu fun _ _ h => h, ?_⟩
  cases out with
  | bad c => exact hq
  | ok v t rest =>
    obtain ⟨e0, wv', tv', a, b, c⟩ := hq
    exact ⟨e0, wv', tv', a, fun j hj => (b j hj).imp id fun h1 => by omega, c.mono fun j hj => ⟨by omega, hj.2⟩⟩
theorem operator_ev (w : Bs) (h : Hp) : EvA Try.prog 102 [.string (bs w)] (fun r h' => h' = h ∧ r = .int .u8 (opN w : Nat)) h := by
  refine EvA.body Try.func102 rfl (by kernel_rfl) (by simp) ?_
  apply Run.ok
  unfold opN
  by_cases c1 : w = [61, 61]
  · simp [c1]
  by_cases c2 : w = [33, 61]
  · simp [c2]
  by_cases c3 : w = [126]
  · simp [c3]
  · simp [c1, c2, c3]
theorem next_ev (m : PS h pb k wv tv ws ts d) (w : Bs) :
    EvA Try.prog 101 [.pointer (some ⟨pb, 0, none⟩), .string (bs w)] (fun r h' => (∃ q wv', ws = w :: q ∧ r = .bool true ∧ PS h' pb k wv' tv q ts d ∧ Upd (· = pb) h h') ∨ ((∀ q, ws ≠ w :: q) ∧ r = .bool false ∧ h' = h)) h := by
  refine EvA.body Try.func101 rfl (by kernel_rfl) (by simp) ?_
  apply Run.ok
  have l0 := m.l0
  have wl := m.wl
  cases ws with
  | nil =>
    simp at wl
    simp [l0, wl, -load_ptr]
  | cons w0 q =>
    have e0 : ((((w0 :: q).length : Nat) : Int) == 0) = false := by simp; omega
    have ia := m.ia (i := 0) (by simp)
    have ld := m.ld (i := 0) (by simp)
    simp only [List.getElem_cons_zero, Nat.add_zero] at ia ld
    have ia' : indexAddrA Try.prog 22 wv (.int .i64 0) = some (.pointer (some ⟨rbl wv, rof wv, none⟩)) := ia
    obtain ⟨wv', s1, s2, s3⟩ := SlS.lo (P := Try.prog) (t := 22) (e := 9) (k := .i64) (m := 1) m.wr (by simp) (by simp) (by simp)
    have s1' : sliceA Try.prog 22 wv (some (.int .i64 1)) none none h = some wv' := s1 _ Same.refl
    have hcv := (Row.one s2.1).1
    have hov := (Row.one s2.1).2
    have hlt := hp_lt m.at_
    have hst : storeA Try.prog 22 (.pointer (some ⟨pb, 0, none⟩)) wv' h = some (h.set pb (.cells [wv', tv, .int .i64 (d : Nat)] false none)) := by simp [storeA, m.at_, hcv, hov, spl]
    obtain ⟨p1, p2⟩ := m.put (ws' := q) (ts' := ts) (d' := d) (by simpa using s2) s3 m.tr (fun w hw => List.mem_cons_of_mem _ hw) (by simp) m.dl
    generalize (((w0 :: q).length : Nat) : Int) = len at wl e0
    by_cases c : w0 = w
    · subst c
      simp [l0, wl, e0, ia', ld, s1', hst, -load_ptr, -store_ptr]
      exact ⟨⟨wv', p1⟩, p2⟩
    · simp [l0, wl, e0, ia', ld, c, -load_ptr]
/-- one deeper -/
theorem deeper_ev (m : PS h pb k wv tv ws ts d) (fn : FuncId) (cap : Value) (st : Out → Prop)
    (hdo : d < 64 → ∀ g, PS g pb k wv tv ws ts (d + 1) → Upd (· = pb) h g → EvA Try.prog fn [cap] (fun r g' => ∃ out, st out ∧ Post g pb k tv ts (d + 1) out r g') g) :
    EvA Try.prog 103 [.pointer (some ⟨pb, 0, none⟩), .func (.func fn) #[] #[cap]] (fun r h' => ∃ out, ((64 ≤ d ∧ out = .bad 65) ∨ (d < 64 ∧ st out)) ∧ Post h pb k tv ts d out r h') h := by
  refine EvA.body Try.func103 rfl (by kernel_rfl) (by simp) ?_
  apply Run.ok
  have l2 := m.l2
  have hdl := m.dl
  by_cases c : d = 64
  · subst c
    simp [l2, -load_ptr]
    exact ⟨.nilIface, 65, rfl, rfl, rfl, Upd.refl, rfl, _, _, m.at_⟩
  · have c' : ((d : Int) == 64) = false := by simp; omega
    have w1 : IntKind.i64.wrap ((d : Int) + 1) = ((d + 1 : Nat) : Int) := by rw [wrap_i64 (by omega) (by omega)]; omega
    have hst : storeA Try.prog 3 (.pointer (some ⟨pb, 2, none⟩)) (.int .i64 ((d + 1 : Nat) : Int)) h = some (h.set pb (.cells [wv, tv, .int .i64 ((d + 1 : Nat) : Int)] false none)) := by simp [storeA, m.at_, cellsOf, spl, oneA]
    obtain ⟨p1, p2⟩ := m.put (ws' := ws) (ts' := ts) (d' := d + 1) m.wr (fun _ h => h) m.tr (fun _ h => h) (Nat.le_refl _) (by omega)
    generalize hd1 : (((d + 1 : Nat) : Int)) = dd at w1 hst
    simp [l2, c', w1, hst, -load_ptr, -store_ptr]
    rw [← hd1]
    generalize h.set pb (.cells [wv, tv, .int .i64 ((d + 1 : Nat) : Int)] false none) = g at p1 p2 ⊢
    refine after_call (hdo (by omega) g p1 p2) ?_
    rintro r g' ⟨out, ho, x, e, rfl, hc, hone, hu, hq⟩
    have w2 : IntKind.i64.wrap (((d + 1 : Nat) : Int) - 1) = (d : Int) := by rw [wrap_i64 (by omega) (by omega)]; omega
    cases out with
    | bad c0 =>
      obtain ⟨rfl, wv', tv', hp⟩ := hq
      have l2' : loadA Try.prog 3 (.pointer (some ⟨pb, 2, none⟩)) g' = some (.int .i64 ((d + 1 : Nat) : Int)) := by rw [load_at hp (by simp)]; rfl
      have hst' : storeA Try.prog 3 (.pointer (some ⟨pb, 2, none⟩)) (.int .i64 (d : Int)) g' = some (g'.set pb (.cells [wv', tv', .int .i64 (d : Int)] false none)) := by simp [storeA, hp, cellsOf, spl, oneA]
      have hlt := hp_lt hp
      rw [hd1] at l2' w2
      simp [l2', w2, hst', -load_ptr, -store_ptr]
      refine ⟨.bad e, .inr ⟨by omega, ho⟩, x, e, rfl, hc, hone, Upd.trans (Upd.trans (p2.mono fun j _ h => .inl h) hu fun _ _ h => h) (Upd.set (S := (· = pb)) rfl _) fun _ _ h => .inl h, rfl, wv', tv', by simp [hlt]⟩
    | ok v t rest =>
      obtain ⟨rfl, wv', tv', mp, htv, hm⟩ := hq
      have l2' := mp.l2
      have hst' : storeA Try.prog 3 (.pointer (some ⟨pb, 2, none⟩)) (.int .i64 (d : Int)) g' = some (g'.set pb (.cells [wv', tv', .int .i64 (d : Int)] false none)) := by simp [storeA, mp.at_, cellsOf, spl, oneA]
      obtain ⟨r1, r2⟩ := mp.put (ws' := rest) (ts' := ts ++ t) (d' := d) mp.wr (fun _ h => h) mp.tr (fun _ h => h) (Nat.le_refl _) hdl
      rw [hd1] at l2' w2
      simp [l2', w2, hst', -load_ptr, -store_ptr]
      have hl := p2.len
      have hl2 := r2.len
      have hpk := mp.pk
      have hkh := p1.kh
      refine ⟨.ok v t rest, .inr ⟨by omega, ho⟩, x, 0, rfl, hc, hone, Upd.trans (Upd.trans (p2.mono fun j _ h => .inl h) hu fun _ _ h => h) r2 fun _ _ h => .inl h, rfl, wv', tv', r1, fun j hj => (htv j hj).imp id fun h1 => by omega, (hm.upd r2 fun j hj e => by omega).mono fun j hj => ⟨by omega, by omega, hj.2.2⟩⟩
end
end Go.Proofs.Ytbamofeocfbjbaa
