/- The law BadgePlays: called, it comes to true; no condition. -/
import Derived.Test.YtaahkamnpobofaaAsked
namespace Go.Proofs.Ytaahkamnpobofaa
open Go.Ab
inductive PlaysInv (g : Hp) (k : Nat) (v : Value) (l : List St5) (z : Nat) (fr : Fr) (g' : Hp) : Prop
  | mk (i d b d2 : Nat) (w : Value) (T : Int) (L : List Bd) (hz : z = l.length - i) (hi : i ≤ l.length) (f1 : fr 1 = v) (f5 : fr 5 = .pointer (some ⟨d, 0, none⟩)) (f6 : fr 6 = .pointer (some ⟨d2, 0, none⟩)) (f7 : fr 7 = .int .i64 (i : Nat))
      (r : DeskR g' k d b T L) (r2 : RefD g' k d2 w T L) (ap : (d2 ≠ d ∧ d2 ≠ b) ∧ ∀ j, inRow w j → j ≠ d ∧ j ≠ b) (sm : Same g g')
section
variable {h g : Hp} {v w : Value} {l m : List St5} {i : Nat}
theorem after1 {h h' : Hp} {k d b d2 : Nat} {T T' : Int} {L L' : List Bd} {w : Value} {S : Nat → Prop} (_r : DeskR h k d b T L) (r2 : RefD h k d2 w T' L') (ap : (d2 ≠ d ∧ d2 ≠ b) ∧ ∀ j, inRow w j → j ≠ d ∧ j ≠ b) (u : Upd S h h') (hS : ∀ j, S j → j = d ∨ j = b) : RefD h' k d2 w T' L' :=
  r2.upd u (fun e => by have := hS _ e; omega) (fun j hj e => by have := hS _ e; have := ap.2 j hj; omega)
set_option maxHeartbeats 8000000 in
set_option maxRecDepth 10000 in
theorem plays26_ev (last0 : Int) (hv : SRow5 h v l) (hl : ∀ s ∈ l, s.a ≤ 9223372036854775807) :
    EvA Try.prog 11 [.int .i64 last0, v] (fun r _ => r = .bool true) h := by
  refine EvA.body Try.func11 rfl (by kernel_rfl) (by simp) ?_
  apply Run.ok
  have wl := SLen hv
  by_cases c0 : 120 < l.length
  · have c0' : (120 : Int) < l.length := by omega
    simp [wl, c0']
  have c0' : ¬ (120 : Int) < l.length := by omega
  simp [wl, c0']
  by_cases cr : last0 < 0 ∨ 2147483647 < last0
  · refine after_call (new26_no _ cr) ?_
    rintro w g ⟨rfl, rfl⟩
    by_cases q1 : last0 < 0
    · simp [spl, q1]
    · have q2 : 2147483647 < last0 := by omega
      simp [spl, q1, q2]
  have cr0 : ¬ last0 < 0 := by omega
  have cr1 : ¬ 2147483647 < last0 := by omega
  refine after_call (new26_ok _ (by omega) (by omega)) ?_
  rintro w g0 ⟨rfl, r, sm⟩
  have hk2 := r.lt
  have sn : Same g0 (g0 ++ [Blk.cells [.int .i64 last0, .slice none 0 0] false none]) := Same.new _
  have hn : (g0 ++ [Blk.cells [.int .i64 last0, .slice none 0 0] false none])[g0.length]? = some (.cells [.int .i64 last0, .slice none 0 0] false none) := by simp
  obtain ⟨g1, hg1⟩ : ∃ g1, g1 = g0 ++ [Blk.cells [.int .i64 last0, .slice none 0 0] false none] := ⟨_, rfl⟩
  rw [← hg1] at sn hn
  have r2 : RefD g1 h.length g0.length (.slice none 0 0) last0 [] := ⟨hn, Acc.nil _, fun j hj => (by obtain ⟨a, n, c, he, _⟩ := hj; cases he), by omega, DeskOk.nil (by omega) (by omega)⟩
  simp [spl, cr0, cr1, ← hg1]
  refine WpA.loop (PlaysInv h h.length v l) (k := l.length) ⟨0, h.length + 1, h.length, g0.length, .slice none 0 0, last0, [], by simp, by omega, by simp, by simp, by simp, by simp, r.same sn, r2, ⟨by omega, fun j hj => (by obtain ⟨a, n, c, he, _⟩ := hj; cases he)⟩, sm.trans sn⟩ ?_
  clear r sm r2 sn hn hg1
  rintro z fr gA ⟨i, d, b, d2, w, T, L, rfl, hi, f1, f5, f6, f7, r, r2, ap, sm⟩
  apply Run.ok
  have wl' := SLen (hv.same sm)
  by_cases c : i < l.length
  · have c' : (i : Int) < l.length := by omega
    have w3 : IntKind.i64.wrap ((i : Int) + 1) = (i : Int) + 1 := wrap_i64 (by omega) (by omega)
    have ia := SIA (hv.same sm) c
    have ag := SAG (hv.same sm) c
    have hsa := hl l[i] (List.getElem_mem _)
    generalize l[i] = s at ag hsa
    have sn : Same gA (gA ++ [Blk.cells s.cells false none]) := Same.new _
    have hn : (gA ++ [Blk.cells s.cells false none])[gA.length]? = some (Blk.cells s.cells false none) := by simp
    obtain ⟨gB, hB⟩ : ∃ gB, gB = gA ++ [Blk.cells s.cells false none] := ⟨_, rfl⟩
    rw [← hB] at sn hn
    have hB' : gA ++ [Blk.cells [.int .i64 s.k, .int .i64 s.a, .int .i64 s.b, .int .i64 s.c, .int .i64 s.d] false none] = gB := hB.symm
    have rB := r.same sn
    have rB2 := r2.same sn
    have smB := sm.trans sn
    have lA := r.lt
    have lA2 := r2.lt
    have lW : ∀ j, inRow w j → h.length ≤ j ∧ j < gA.length := fun j hj => r2.row.above j hj
    have hkd := r.kd
    have hkb := r.kb
    have hkd2 := r2.kd
    obtain ⟨cc, hcc⟩ : ∃ cc, cc = gA.length := ⟨_, rfl⟩
    rw [← hcc] at hn lA lA2 lW
    have lds : ∀ {gx : Hp}, gx[cc]? = some (Blk.cells s.cells false none) → loadA Try.prog 3 (.pointer (some ⟨cc, 0, none⟩)) gx = some (.int .i64 s.k) ∧ loadA Try.prog 3 (.pointer (some ⟨cc, 1, none⟩)) gx = some (.int .i64 s.a) ∧ loadA Try.prog 3 (.pointer (some ⟨cc, 2, none⟩)) gx = some (.int .i64 s.b) ∧ loadA Try.prog 3 (.pointer (some ⟨cc, 3, none⟩)) gx = some (.int .i64 s.c) ∧ loadA Try.prog 3 (.pointer (some ⟨cc, 4, none⟩)) gx = some (.int .i64 s.d) := fun hx => by
      have q0 := load_at (P := Try.prog) (t := 3) (o := 0) hx (by simp)
      have q1 := load_at (P := Try.prog) (t := 3) (o := 1) hx (by simp)
      have q2 := load_at (P := Try.prog) (t := 3) (o := 2) hx (by simp)
      have q3 := load_at (P := Try.prog) (t := 3) (o := 3) hx (by simp)
      have q4 := load_at (P := Try.prog) (t := 3) (o := 4) hx (by simp)
      exact ⟨q0, q1, q2, q3, q4⟩
    obtain ⟨k0, k1, k2, k3, k4⟩ := lds hn
    by_cases e0 : s.k = 0
    · have e0' : (s.k == 0) = true := by simpa using e0
      simp [f1, f5, f7, wl', c', ia, ag, hB', spl, ← hcc, k0, k1, k2, k3, k4, e0', -load_ptr]
      refine after_call (give_ev rB s.bd) ?_
      rintro w1 gC ⟨rfl, rC, uC⟩
      have rC2 := after1 rB rB2 ap uC fun j e => e
      have hnC := uC.at hn (by omega)
      obtain ⟨k0, k1, k2, k3, k4⟩ := lds hnC
      simp [f6, k1, k2, k3, k4, -load_ptr]
      refine after_call (rgive_ev rC2 s.bd) ?_
      rintro w2 gD ⟨rfl, w', rD2, uD, hw'⟩
      have lC := rC.lt
      have rD := rC.upd uD (fun e => by rcases e with e | e; omega; have := ap.2 d e; omega) (fun e => by rcases e with e | e; omega; have := ap.2 b e; omega)
      have hnD := uD.at hnC (fun e => by rcases e with e | e; omega; have := lW cc e; omega)
      obtain ⟨k0, k1, k2, k3, k4⟩ := lds hnD
      have smD : Same h gD := Upd.trans (Upd.trans smB uC fun j hj e => by omega) uD fun j hj e => by rcases e with e | e; omega; have := lW j e; omega
      have apD : (d2 ≠ d ∧ d2 ≠ b) ∧ ∀ j, inRow w' j → j ≠ d ∧ j ≠ b := ⟨ap.1, fun j hj => by
        rcases hw' j hj with e | e
        · exact ap.2 j e
        · omega⟩
      simp [f5, f6, k1, k2, -load_ptr]
      refine after_call (asked_ev rD rD2 s.a s.b hsa) ?_
      rintro w9 gZ ⟨sZ, rfl⟩
      simp [f7, w3, -roundQ_normal, ↓rq]
      exact stop_intro ⟨l.length - (i + 1), by omega, i + 1, d, b, d2, w', _, _, rfl, by omega, by simp [f1], by simp [f5], by simp [f6], by simp, rD.same sZ, rD2.same sZ, apD, smD.trans sZ⟩
    have e0' : (s.k == 0) = false := by simpa using e0
    by_cases e1 : s.k = 1
    · have e1' : (s.k == 1) = true := by simpa using e1
      simp [f1, f5, f7, wl', c', ia, ag, hB', spl, ← hcc, k0, k1, k2, e0', e1', -load_ptr]
      refine after_call (beat_ev rB s.a s.b) ?_
      rintro w1 gC ⟨rfl, rC, uC⟩
      have rC2 := after1 rB rB2 ap uC fun j e => .inr e
      have hnC := uC.at hn (by omega)
      obtain ⟨k0, k1, k2, k3, k4⟩ := lds hnC
      simp [f6, k1, k2, -load_ptr]
      refine after_call (rbeat_ev rC2 s.a s.b) ?_
      rintro w2 gD ⟨rfl, w', rD2, uD, hw'⟩
      have lC := rC.lt
      have rD := rC.upd uD (fun e => by rcases e with e | e; omega; have := ap.2 d e; omega) (fun e => by rcases e with e | e; omega; have := ap.2 b e; omega)
      have hnD := uD.at hnC (fun e => by rcases e with e | e; omega; have := lW cc e; omega)
      obtain ⟨k0, k1, k2, k3, k4⟩ := lds hnD
      have smD : Same h gD := Upd.trans (Upd.trans smB uC fun j hj e => by omega) uD fun j hj e => by rcases e with e | e; omega; have := lW j e; omega
      have apD : (d2 ≠ d ∧ d2 ≠ b) ∧ ∀ j, inRow w' j → j ≠ d ∧ j ≠ b := ⟨ap.1, fun j hj => by
        rcases hw' j hj with e | e
        · exact ap.2 j e
        · omega⟩
      simp [f5, f6, k1, k2, -load_ptr]
      refine after_call (asked_ev rD rD2 s.a s.b hsa) ?_
      rintro w9 gZ ⟨sZ, rfl⟩
      simp [f7, w3, -roundQ_normal, ↓rq]
      exact stop_intro ⟨l.length - (i + 1), by omega, i + 1, d, b, d2, w', _, _, rfl, by omega, by simp [f1], by simp [f5], by simp [f6], by simp, rD.same sZ, rD2.same sZ, apD, smD.trans sZ⟩
    have e1' : (s.k == 1) = false := by simpa using e1
    by_cases e2 : s.k = 2
    · have e2' : (s.k == 2) = true := by simpa using e2
      simp [f1, f5, f7, wl', c', ia, ag, hB', spl, ← hcc, k0, k1, e0', e1', e2', -load_ptr]
      refine after_call (dropC_ev rB s.a) ?_
      rintro w1 gC ⟨hw1, rC, uC⟩
      obtain ⟨ee, hee⟩ : ∃ ee, ee = (if (atL L s.a).isNone = true then (60 : Int) else 0) := ⟨_, rfl⟩
      rw [← hee] at hw1
      subst hw1
      have rC2 := after1 rB rB2 ap uC fun j e => .inr e
      have hnC := uC.at hn (by omega)
      obtain ⟨k0, k1, k2, k3, k4⟩ := lds hnC
      simp [f6, k1, -load_ptr]
      refine after_call (rdrop_ev rC2 s.a) ?_
      rintro w2 gD ⟨hw2, w', rD2, uD, hw'⟩
      rw [← hee] at hw2
      subst hw2
      have lC := rC.lt
      have rD := rC.upd uD (fun e => by rcases e with e | e; omega; have := ap.2 d e; omega) (fun e => by rcases e with e | e; omega; have := ap.2 b e; omega)
      have hnD := uD.at hnC (fun e => by rcases e with e | e; omega; have := lW cc e; omega)
      obtain ⟨k0, k1, k2, k3, k4⟩ := lds hnD
      have smD : Same h gD := Upd.trans (Upd.trans smB uC fun j hj e => by omega) uD fun j hj e => by rcases e with e | e; omega; have := lW j e; omega
      have apD : (d2 ≠ d ∧ d2 ≠ b) ∧ ∀ j, inRow w' j → j ≠ d ∧ j ≠ b := ⟨ap.1, fun j hj => by
        rcases hw' j hj with e | e
        · exact ap.2 j e
        · omega⟩
      simp [f5, f6, k1, k2, -load_ptr]
      refine after_call (asked_ev rD rD2 s.a s.b hsa) ?_
      rintro w9 gZ ⟨sZ, rfl⟩
      simp [f7, w3, -roundQ_normal, ↓rq]
      exact stop_intro ⟨l.length - (i + 1), by omega, i + 1, d, b, d2, w', _, _, rfl, by omega, by simp [f1], by simp [f5], by simp [f6], by simp, rD.same sZ, rD2.same sZ, apD, smD.trans sZ⟩
    have e2' : (s.k == 2) = false := by simpa using e2
    by_cases e3 : s.k = 3
    · have e3' : (s.k == 3) = true := by simpa using e3
      simp [f1, f5, f7, wl', c', ia, ag, hB', spl, ← hcc, k0, e0', e1', e2', e3', -load_ptr]
      refine after_call (save_ev rB) ?_
      rintro bv gC ⟨B, s1⟩
      have rC2 := rB2.same s1
      have few := r.ok.few
      have hsl := saveB_len T L
      simp
      refine after_call (load_ev (BAcc.bytes B) (by omega)) ?_
      rintro x gD ⟨s2, hq⟩
      have ho := loadD_own r.ok []
      simp only [List.append_nil, if_true] at ho
      rw [ho] at hq
      obtain ⟨d', b', rfl, rD⟩ := hq
      have rD2 := rC2.same s2
      have hnD := (s1.trans s2).at hn
      obtain ⟨k0, k1, k2, k3, k4⟩ := lds hnD
      have smD := (smB.trans s1).trans s2
      have hkd' := rD.kd
      have hkb' := rD.kb
      have lC2 := rC2.lt
      have rDk : DeskR gD h.length d' b' T L := rD.weak (by have := smB.len; have := s1.len; omega)
      have apD : (d2 ≠ d' ∧ d2 ≠ b') ∧ ∀ j, inRow w j → j ≠ d' ∧ j ≠ b' := ⟨by omega, fun j hj => by have := rC2.row.above j hj; omega⟩
      simp [f6, k1, k2, -load_ptr]
      refine after_call (asked_ev rDk rD2 s.a s.b hsa) ?_
      rintro w9 gZ ⟨sZ, rfl⟩
      simp [f7, w3, -roundQ_normal, ↓rq]
      exact stop_intro ⟨l.length - (i + 1), by omega, i + 1, d', b', d2, w, _, _, rfl, by omega, by simp [f1], by simp, by simp [f6], by simp, rDk.same sZ, rD2.same sZ, apD, smD.trans sZ⟩
    have e3' : (s.k == 3) = false := by simpa using e3
    simp [f1, f5, f6, f7, wl', c', ia, ag, hB', spl, ← hcc, k0, k1, k2, e0', e1', e2', e3', -load_ptr]
    refine after_call (asked_ev rB rB2 s.a s.b hsa) ?_
    rintro w9 gZ ⟨sZ, rfl⟩
    simp [f7, w3, -roundQ_normal, ↓rq]
    exact stop_intro ⟨l.length - (i + 1), by omega, i + 1, d, b, d2, w, _, _, rfl, by omega, by simp [f1], by simp [f5], by simp [f6], by simp, rB.same sZ, rB2.same sZ, ap, smB.trans sZ⟩
  · have c' : ¬ (i : Int) < l.length := by omega
    simp [f1, f5, f6, f7, wl', c', -load_ptr]
    refine after_call (asked_ev r r2 1 0 (by decide)) ?_
    rintro w9 gZ ⟨sZ, rfl⟩
    simp
end
theorem badgePlays_ev (h : Hp) (vs : List Value) (dts : List Dt) (hr : RepAll Try.prog h 6 [3, 67] vs dts) : EvA Try.prog 11 vs (fun r _ => r = .bool true) h := by
  obtain ⟨a, vs, d, ds, rfl, rfl, h1, hr⟩ := hr.cons
  obtain ⟨b, vs, e, ds, rfl, rfl, h2, hr⟩ := hr.cons
  rw [hr.nil]
  obtain ⟨n, rfl, _⟩ := h1.int (q := .i64) (by simp)
  have key : ∀ k x d, True → Rep Try.prog h k 71 x d → ∃ s : St5, x = s.cells ∧ s.a ≤ 9223372036854775807 := by
    intro k x d _ hx
    obtain ⟨s, e, q, _⟩ := St5.of hx
    exact ⟨s, e, q⟩
  obtain ⟨m, m1, m2, m3, m4⟩ := h2.slice (e := 71) (z := 5) St5.cells (fun s => s.a ≤ 9223372036854775807) (by simp) (by kernel_rfl) (fun k x d hh hx => key k x d trivial hx)
  exact plays26_ev n (m1.rows (fun _ _ => rfl) m4) m3
end Go.Proofs.Ytaahkamnpobofaa
