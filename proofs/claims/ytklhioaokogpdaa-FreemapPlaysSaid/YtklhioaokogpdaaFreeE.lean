/- freemap's List: what it answers; no condition. -/
import Derived.Test.YtklhioaokogpdaaFreeD
namespace Go.Proofs.Ytklhioaokogpdaa
open Go.Ab Go.Free
/-- the places of true below n -/
def idxs (T : List Bool) (n : Nat) : List Nat := (List.range n).filter fun i => T.getD i false
theorem idxs_succ (T : List Bool) (n : Nat) : idxs T (n + 1) = if T.getD n false then idxs T n ++ [n] else idxs T n := by
  unfold idxs
  rw [List.range_succ, List.filter_append]
  cases h : T.getD n false <;> rw [List.getD_eq_getElem?_getD] at h <;> simp [h]
theorem idxs_len (T : List Bool) (n : Nat) : (idxs T n).length ≤ n := by
  have := List.length_filter_le (fun i => T.getD i false) (List.range n)
  simpa [idxs] using this
def intV (n : Nat) : Value := .int .i64 (n : Int)
theorem readyL_busyL {L : LoopA} (h1 : L.st = .ready) (h2 : L.pend = none) : readyL (busyL L) = L := by cases L; simp_all [readyL, busyL]
theorem all_ev (b : Nat) (h : Hp) : EvA Try.prog 68 [.pointer (some ⟨b, 0, none⟩)] (fun r h' => r = .func (.func 118) #[] #[.pointer (some ⟨h.length, 0, none⟩)] ∧ h' = h ++ [.cells [.pointer (some ⟨b, 0, none⟩)] false none]) h := by
  refine EvA.body Try.func68 rfl (by kernel_rfl) (by simp) ?_
  apply Run.ok
  simp
set_option maxHeartbeats 1000000 in
theorem list_ev {h : Hp} {k b : Nat} {v : Value} {T : List Bool} (m : FM h k b v T) :
    EvA Try.prog 19 [.pointer (some ⟨b, 0, none⟩)] (fun r h' => Acc h.length h' 1 r (idxs T T.length).length ((idxs T T.length).map intV) ∧ Same h h') h := by
  refine EvA.body Try.func19 rfl (by kernel_rfl) (by simp) ?_
  apply Run.ok
  have hl := m.len
  simp
  refine after_call (all_ev b _) ?_
  rintro r h1 ⟨rfl, rfl⟩
  simp
  refine WpA.rangeFunc (gf := 118) (first := #[]) (cap := #[.pointer (some ⟨h.length + 1, 0, none⟩)]) (by simp) ?_
  intro L l1 l2 l3 l4 l5 l6 l7
  simp
  refine EvA.body Try.func118 rfl (by kernel_rfl) (by simp) ?_
  apply Run.ok
  have m0 := m.upd (Same.new [.cells [.slice none 0 0] false none, .cells [.pointer (some ⟨b, 0, none⟩)] false none, .loop L]) (fun _ _ h => h)
  simp
  refine after_call (flen_ev m0) ?_
  rintro r h2 ⟨rfl, rfl⟩
  simp
  refine WpA.loop (fun q fr g => ∃ i a, q = T.length - i ∧ i ≤ T.length ∧ fr 0 = .func (.yield (h.length + 2)) #[] #[] ∧ fr 1 = .pointer (some ⟨h.length + 1, 0, none⟩) ∧ fr 5 = .int .i64 (T.length : Nat) ∧ fr 6 = .int .i64 (i : Nat) ∧ Same h g ∧
      g[h.length]? = some (.cells [a] false none) ∧ g[h.length + 1]? = some (.cells [.pointer (some ⟨b, 0, none⟩)] false none) ∧ g[h.length + 2]? = some (.loop L) ∧ Acc (h.length + 3) g 1 a (idxs T i).length ((idxs T i).map intV))
    (k := T.length) ⟨0, .slice none 0 0, by simp, by omega, by simp, by simp, by simp, by simp, Same.new _, by simp, by simp, by simp, Acc.nil _⟩ ?_
  rintro q fr g ⟨i, a, rfl, hi, f0, f1, f5, f6, sm, g1, g2, g3, ha⟩
  apply Run.ok
  have l0 := load_at (P := Try.prog) (t := 35) (o := 0) g1 (by simp)
  have lp := load_at (P := Try.prog) (t := 23) (o := 0) g2 (by simp)
  simp only [List.getElem?_cons_zero] at l0 lp
  by_cases c : i < T.length
  · have c' : (i : Int) < T.length := by omega
    have w1 : IntKind.i64.wrap ((i : Int) + 1) = (i : Int) + 1 := wrap_i64 (by omega) (by omega)
    have hg : T.getD i false = T[i] := by simp [List.getD_eq_getElem?_getD, c]
    simp [f0, f1, f5, f6, c', lp, -load_ptr]
    refine after_call (taken_ev (i : Int) (m.upd sm (fun _ _ h => h))) ?_
    rintro r g' ⟨rfl, rfl⟩
    rw [tk_nat T i c]
    cases hT : T[i] with
    | false =>
      have hix : idxs T (i + 1) = idxs T i := by rw [idxs_succ, hg, hT]; rfl
      simp [f0, f1, f5, f6, w1, -roundQ_normal, ↓rq]
      refine stop_intro ⟨T.length - (i + 1), by omega, i + 1, a, rfl, by omega, by simp [f0], by simp [f1], by simp [f5], by simp, sm, g1, g2, g3, by rw [hix]; exact ha⟩
    | true =>
      have hix : idxs T (i + 1) = idxs T i ++ [i] := by rw [idxs_succ, hg, hT]; rfl
      simp [f0, f1, f5, f6]
      refine after_round ⟨L, g3, by simp [l5], by rw [l6]; rfl, by rw [l7]; rfl, ?_⟩
      rw [l6, l3]
      apply Run.ok
      simp [putPs, l3, l4, l5]
      refine ⟨rfl, L, g3, l1, ?_⟩
      rw [l7]
      apply Run.ok
      have hlt3 := hp_lt g3
      have e1 : (g'.set (h.length + 2) (.loop (busyL L)))[h.length]? = some (.cells [a] false none) := by rw [List.getElem?_set_ne (by omega)]; exact g1
      have l0' := load_at (P := Try.prog) (t := 35) (o := 0) e1 (by simp)
      simp only [List.getElem?_cons_zero] at l0'
      have ha1 : Acc (h.length + 3) (g'.set (h.length + 2) (.loop (busyL L)) ++ [.cells [.int .i64 (i : Int)] false none]) 1 a (idxs T i).length ((idxs T i).map intV) :=
        (ha.upd (Upd.set (S := (· = h.length + 2)) rfl _) fun j hj he => by have := (ha.above j hj).1; omega).same (Same.new _)
      have hil := idxs_len T i
      obtain ⟨a', g4, e4, a4, u4, n4⟩ := Acc.append (P := Try.prog) (t := 35) (tx := 35) (e := 3) (by_ := 8) (dx := .slice 3) ha1 (by simp; omega) (by simp) (by simp) (by simp) rfl
        (x := .slice (some ⟨g'.length, 0, none⟩) 1 1) (m := 1) (ys := [.int .i64 (i : Int)]) (by simp [srcA]) (by simp) (by simp) (by omega) (by omega)
      have hab : ∀ j, inRow a j → h.length + 3 ≤ j := fun j hj => (ha.above j hj).1
      have k1 : g4[h.length]? = some (.cells [a] false none) := u4.at (by rw [List.getElem?_append_left (by simp; omega)]; exact e1) (fun hj => by have := hab _ hj; omega)
      have k2 : g4[h.length + 1]? = some (.cells [.pointer (some ⟨b, 0, none⟩)] false none) := u4.at (by rw [List.getElem?_append_left (by simp; omega), List.getElem?_set_ne (by omega)]; exact g2) (fun hj => by have := hab _ hj; omega)
      have k3 : g4[h.length + 2]? = some (.loop (busyL L)) := u4.at (by rw [List.getElem?_append_left (by simp; omega), List.getElem?_set_self hlt3]) (fun hj => by have := hab _ hj; omega)
      have hl4 := hp_lt k3
      have hc4 := (Row.one a4.row).1
      have ho4 := (Row.one a4.row).2
      simp [l0', e4, storeA, k1, hc4, ho4, spl, zeros, capO, -load_ptr, -store_ptr]
      refine ⟨busyL L, by rw [List.getElem?_set_ne (by omega)]; exact k3, ?_⟩
      rw [readyL_busyL l1 l2]
      simp [f0, f1, f5, f6, w1, -roundQ_normal, ↓rq]
      refine stop_intro ⟨T.length - (i + 1), by omega, i + 1, a', rfl, by omega, by simp [f0], by simp [f1], by simp [f5], by simp, ?_, ?_, ?_, ?_, ?_⟩
      · refine Upd.trans (S := fun _ => False) (S' := fun j => h.length ≤ j) (Upd.trans (S' := fun j => h.length ≤ j) sm (Upd.trans (S := fun j => h.length ≤ j) (S' := fun j => h.length ≤ j) (Upd.set (S := fun j => h.length ≤ j) (by omega) _) (Upd.trans (S := fun j => h.length ≤ j) (S' := inRow a) (Upd.new _) u4 fun j _ hj => by have := hab j hj; omega) fun _ _ h => h) fun j hj h' => by omega) ?_ fun j hj h' => by omega
        refine Upd.trans (S := fun j => h.length ≤ j) (S' := fun j => h.length ≤ j) (Upd.set (S := fun j => h.length ≤ j) (Nat.le_refl _) _) (Upd.set (S := fun j => h.length ≤ j) (by omega) _) fun _ _ h => h
      · rw [List.getElem?_set_ne (by omega), List.getElem?_set_self (by omega)]
      · rw [List.getElem?_set_ne (by omega), List.getElem?_set_ne (by omega)]; exact k2
      · rw [List.getElem?_set_self (by simp; omega)]
      · rw [hix]
        have ab4 : ∀ j, inRow a' j → h.length + 3 ≤ j := fun j hj => (a4.above j hj).1
        have := (a4.upd (Upd.set (S := (· = h.length)) rfl (.cells [a'] false none)) fun j hj he => by have := ab4 j hj; omega).upd (Upd.set (S := (· = h.length + 2)) rfl (.loop L)) fun j hj he => by have := ab4 j hj; omega
        simpa [intV] using this
  · have c' : ¬ (i : Int) < T.length := by omega
    have hie : i = T.length := by omega
    subst hie
    simp [f5, f6, c']
    refine ⟨L, g3, by simp [l1], ?_⟩
    have k0 : (g.set (h.length + 2) .dead)[h.length]? = some (.cells [a] false none) := by rw [List.getElem?_set_ne (by omega)]; exact g1
    have l0' := load_at (P := Try.prog) (t := 35) (o := 0) k0 (by simp)
    simp only [List.getElem?_cons_zero] at l0'
    simp [l2, l0', -load_ptr]
    refine ⟨Acc.down (by omega) (ha.upd (Upd.set (S := (· = h.length + 2)) rfl _) fun j hj he => by have := (ha.above j hj).1; omega), Upd.trans sm (Upd.set (S := (· = h.length + 2)) rfl _) fun j hj he => by omega⟩
end Go.Proofs.Ytklhioaokogpdaa
