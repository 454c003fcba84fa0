/- The document's desk: Load; no condition. -/
import Derived.Test.YtaahkamnpobofaaRDeskD
import Derived.Test.YtaahkamnpobofaaPLoad26
namespace Go.Proofs.Ytaahkamnpobofaa
open Go.Ab
/-- the number of the last one -/
def lastNo (A : List Bd) : Int := match A.getLast? with | some x => x.no | none => 0
theorem lastNo_add (A : List Bd) (x : Bd) : lastNo (A ++ [x]) = x.no := by simp [lastNo]
theorem lastNo_at {A : List Bd} {i : Nat} (hi : A.length = i + 1) : ∃ h : i < A.length, lastNo A = A[i].no := by
  refine ⟨by omega, ?_⟩
  have : A.getLast? = some (A[i]'(by omega)) := by rw [List.getLast?_eq_getElem?, show A.length - 1 = i by omega, List.getElem?_eq_getElem (by omega)]
  simp [lastNo, this]
theorem lastNo_le {last : Int} {A : List Bd} (o : DeskOk last A) : 0 ≤ lastNo A ∧ ∀ y ∈ A, y.no ≤ lastNo A := by
  cases hn : A.length with
  | zero =>
    have : A = [] := List.length_eq_zero_iff.1 hn
    subst this; simp [lastNo]
  | succ i =>
    obtain ⟨hi, e⟩ := lastNo_at hn
    have h1 := o.nos A[i] (List.getElem_mem hi)
    refine ⟨by omega, fun y hy => ?_⟩
    obtain ⟨j, hj, rfl⟩ := List.mem_iff_getElem.1 hy
    rcases Nat.lt_or_ge j i with c | c
    · have := rising_lt o c hi; omega
    · have : j = i := by omega
      subst this; omega
/-- what a reading comes to -/
noncomputable def endB (last : Int) (r : Option (Option (List UInt8) × List Bd)) : Option (Int × List Bd) :=
  match r with | none => none | some (o, L) => if o = some [] then some (last, L) else none
theorem endB_dead (last : Int) (n : Nat) (at' : Int) (A : List Bd) : endB last (readB last n none at' A) = none := by
  cases n with
  | zero => simp [readB, endB]
  | succ n => rw [readB_dead (by omega)]; rfl
/-- one badge read, as the document reads it -/
noncomputable def oneR (o : Option (List UInt8)) : Bd × Option (List UInt8) :=
  let c1 := cntO 2147483647 o
  let c2 := cntO 2147483647 c1.2
  let c3 := cntO 2147483647 c2.2
  let c4 := cntO 2147483647 c3.2
  let c5 := cntO 2147483647 c4.2
  (⟨(c1.1 : Nat), (c2.1 : Nat), (c3.1 : Nat), (c4.1 : Nat), (c5.1 : Nat)⟩, c5.2)
theorem cntO_wide {k : Int} {o : Option (List UInt8)} {r : List UInt8} (h : (cntO k o).2 = some r) : cntO 2147483647 o = cntO k o := by
  have h1 := cntO_some h
  have h2 := (cntO_le k o).1
  have h3 := cntO_enc (most := 2147483647) (u := (cntO k o).1) r (by omega) h2
  rw [← h1] at h3
  rw [h3, ← h]
theorem cntO_dead {k : Int} {o : Option (List UInt8)} (h : (cntO k o).2 = none) : (cntO k o).1 = 0 := by
  by_cases c : (cntO k o).1 = 0
  · exact c
  · obtain ⟨r, hr⟩ := cntO_live c
    rw [hr] at h; cases h
theorem cntO_narrow {k : Int} {o : Option (List UInt8)} (hk : ((cntO 2147483647 o).1 : Int) ≤ k) : cntO k o = cntO 2147483647 o := by
  cases e : (cntO 2147483647 o).2 with
  | some r =>
    have h1 := cntO_some e
    have h3 := cntO_enc (most := k) (u := (cntO 2147483647 o).1) r hk (cntO_le _ _).1
    rw [← h1] at h3
    rw [h3, ← e]
  | none =>
    cases e2 : (cntO k o).2 with
    | some r => exact (cntO_wide e2).symm
    | none =>
      have a1 := cntO_dead e
      have a2 := cntO_dead e2
      exact Prod.ext (a2.trans a1.symm) (e2.trans e.symm)
theorem cntO_past {k : Int} {o : Option (List UInt8)} {r : List UInt8} (h : (cntO k o).2 = some r) : ∃ q, o = some q := by
  cases o with
  | none => cases h
  | some q => exact ⟨q, rfl⟩
theorem oneR_good {o : Option (List UInt8)} (h : (oneR o).1.good = true) : oneB o = oneR o := by
  obtain ⟨_, ⟨_, p4⟩, ⟨_, p6⟩, _⟩ := (Bd.good_iff _).1 h
  simp only [oneR] at p4 p6
  have e3 := cntO_narrow (k := 24) (o := (cntO 2147483647 (cntO 2147483647 o).2).2) (by omega)
  have e4 := cntO_narrow (k := 4) (o := (cntO 2147483647 (cntO 2147483647 (cntO 2147483647 o).2).2).2) (by omega)
  simp only [oneB, oneR]
  rw [e3, e4]
theorem oneB_live {o : Option (List UInt8)} {r : List UInt8} (h : (oneB o).2 = some r) : oneB o = oneR o := by
  simp only [oneB] at h
  obtain ⟨q4, h4⟩ := cntO_past h
  obtain ⟨q3, h3⟩ := cntO_past h4
  have e3 := cntO_wide h3
  have e4 := cntO_wide h4
  simp only [oneB, oneR]
  rw [e3, e4]
theorem readR_bad {last : Int} {n : Nat} {o : Option (List UInt8)} {at' : Int} {A : List Bd} (h : (oneR o).1.good = false) : endB last (readB last (n + 1) o at' A) = none := by
  simp only [readB]
  by_cases c : (oneB o).1.no ≤ at' ∨ last < (oneB o).1.no ∨ (oneB o).1.good = false ∨ busyB A (oneB o).1 = true
  · rw [if_pos c]; rfl
  · rw [if_neg c]
    cases e : (oneB o).2 with
    | none => exact endB_dead _ _ _ _
    | some r =>
      have e2 := oneB_live e
      rw [e2, h] at c
      simp at c
theorem readR_dead {last : Int} {n : Nat} {o : Option (List UInt8)} {at' : Int} {A : List Bd} (h : (oneR o).2 = none) : endB last (readB last (n + 1) o at' A) = none := by
  cases hg : (oneR o).1.good with
  | false => exact readR_bad hg
  | true =>
    have e := oneR_good hg
    simp only [readB]
    rw [e, h]
    split
    · rfl
    · exact endB_dead _ _ _ _
theorem loadD_end (l : List UInt8) : loadD l = endB ((cntO 2147483647 (some l)).1 : Nat) (readB ((cntO 2147483647 (some l)).1 : Nat) (cntO 4 (cntO 2147483647 (some l)).2).1 (cntO 4 (cntO 2147483647 (some l)).2).2 0 []) := rfl
section
variable {h g : Hp} {k d : Nat} {last : Int} {L : List Bd} {v : Value}
inductive RLoadInv (h : Hp) (n rb m d : Nat) (last : Int) (o0 : Option (List UInt8)) (z : Nat) (fr : Fr) (g : Hp) : Prop
  | mk (i : Nat) (o : Option (List UInt8)) (A : List Bd) (v : Value) (hz : z = n - i) (hi : i ≤ n) (f4 : fr 4 = .pointer (some ⟨rb, 0, none⟩)) (f5 : fr 5 = .pointer (some ⟨d, 0, none⟩)) (f6 : fr 6 = .int .i64 (n : Nat)) (f7 : fr 7 = .int .i64 (i : Nat))
      (R : RRO g h.length m rb o) (D : RefD g m d v last A) (sm : Same h g) (hA : A.length = i) (hread : endB last (readB last n o0 0 []) = endB last (readB last (n - i) o (lastNo A) A))
set_option maxHeartbeats 8000000 in
set_option maxRecDepth 8000 in
theorem rload_ev {l : List UInt8} (hb : Bytes h v l) (hl : l.length < 1099511627000) :
    EvA Try.prog 26 [v] (fun r h' => Same h h' ∧ match loadD l with
      | none => r = .tuple #[.pointer none, .int .i64 4]
      | some (last, L) => ∃ d v, r = .tuple #[.pointer (some ⟨d, 0, none⟩), .int .i64 0] ∧ RefD h' h.length d v last L) h := by
  refine EvA.body Try.func26 rfl (by kernel_rfl) (by simp) ?_
  apply Run.ok
  simp
  refine after_call (rnewReader_o hb hl) ?_
  rintro w g1 ⟨rb, rfl, R1, s1⟩
  obtain ⟨m, hm⟩ : ∃ m, m = g1.length := ⟨_, rfl⟩
  rw [← hm] at R1
  have hgl := s1.len
  have hrb := R1.1
  have hrm := R1.2.1
  have sn : Same g1 (g1 ++ [Blk.cells [.int .i64 0, .slice none 0 0] false none]) := Same.new _
  have hn : (g1 ++ [Blk.cells [.int .i64 0, .slice none 0 0] false none])[m]? = some (.cells [.int .i64 0, .slice none 0 0] false none) := by simp [hm]
  have R1 := R1.same sn
  have s1 := s1.trans sn
  have hgn : (g1 ++ [Blk.cells [.int .i64 0, .slice none 0 0] false none]).length = m + 1 := by simp [hm]
  simp [← hm]
  generalize g1 ++ [Blk.cells [Value.int .i64 0, .slice none 0 0] false none] = g2 at hn R1 s1 hgn ⊢
  refine after_call (rcount_o 2147483647 R1) ?_
  rintro w g3 ⟨rfl, R3, u3⟩
  have hcl := cntO_le 2147483647 (some l)
  have hn3 := u3.at hn (by omega)
  have hlt3 := hp_lt hn3
  have p3 := put_cell (((cntO 2147483647 (some l)).1 : Nat) : Int) hn3 (j := 0) (by simp)
  simp only [List.set_cons_zero] at p3
  rw [loadD_end]
  generalize hLast : (((cntO 2147483647 (some l)).1 : Nat) : Int) = last at *
  have u4 : Upd (fun j => j = m) g3 (g3.set m (.cells [.int .i64 last, .slice none 0 0] false none)) := Upd.set (S := (· = m)) rfl _
  have hn4 : (g3.set m (.cells [.int .i64 last, .slice none 0 0] false none))[m]? = some (.cells [.int .i64 last, .slice none 0 0] false none) := by simp [hlt3]
  generalize g3.set m (.cells [.int .i64 last, .slice none 0 0] false none) = g4 at p3 u4 hn4
  have R4 := R3.upd u4 (fun j _ h2 e => by omega)
  have s4 : Same h g4 := Upd.trans (Upd.trans s1 u3 fun j hj e => by omega) u4 fun j hj e => by omega
  simp [p3, -store_ptr]
  refine after_call (rcount_o 4 R4) ?_
  rintro w g5 ⟨rfl, R5, u5⟩
  have hn5 := u5.at hn4 (by omega)
  have hn4' := (cntO_le 4 (cntO 2147483647 (some l)).2).2 (by omega)
  have s5 : Same h g5 := Upd.trans s4 u5 fun j hj e => by omega
  have D5 : RefD g5 m m (.slice none 0 0) last [] := ⟨hn5, Acc.nil _, fun j hj => (by obtain ⟨a, n, c, he, _⟩ := hj; cases he), Nat.le_refl _, DeskOk.nil (by omega) (by omega)⟩
  generalize (cntO 4 (cntO 2147483647 (some l)).2).2 = o0 at R5 ⊢
  generalize (cntO 4 (cntO 2147483647 (some l)).2).1 = n at hn4' ⊢
  clear p3 u3 u4 u5 hn hn3 hn4 hn5 hlt3 s4 R3 R4 R1 s1 hb hgn sn
  have hhm : h.length ≤ m := by omega
  simp
  refine WpA.loop (RLoadInv h n rb m m last o0) (k := n) ⟨0, o0, [], .slice none 0 0, by simp, by omega, by simp, by simp, by simp, by simp, R5, D5, s5, rfl, by simp [lastNo]⟩ ?_
  clear R5 D5 s5
  rintro z fr g ⟨i, o, A, av, rfl, hi, f4, f5, f6, f7, R, D, sm, hA, hread⟩
  apply Run.ok
  by_cases c : i < n
  · have c' : (i : Int) < n := by omega
    have w1 : IntKind.i64.wrap ((i : Int) + 1) = (i : Int) + 1 := wrap_i64 (by omega) (by omega)
    have hnext : n - i = (n - (i + 1)) + 1 := by omega
    rw [hnext] at hread
    have few := D.ok.few
    obtain ⟨hat0, hatle⟩ := lastNo_le D.ok
    have sn : Same g (g ++ [Blk.cells [.int .i64 0, .int .i64 0, .int .i64 0, .int .i64 0, .int .i64 0] false none]) := Same.new _
    have hn : (g ++ [Blk.cells [.int .i64 0, .int .i64 0, .int .i64 0, .int .i64 0, .int .i64 0] false none])[g.length]? = some (.cells [.int .i64 0, .int .i64 0, .int .i64 0, .int .i64 0, .int .i64 0] false none) := by simp
    have R0 := R.same sn
    have D0 := D.same sn
    have s0 := sm.trans sn
    have hglen : (g ++ [Blk.cells [.int .i64 0, .int .i64 0, .int .i64 0, .int .i64 0, .int .i64 0] false none]).length = g.length + 1 := by simp
    obtain ⟨cb, hcb⟩ : ∃ cb, cb = g.length := ⟨_, rfl⟩
    have hcm : m < cb := by have := D.lt; omega
    have hvb : ∀ j, inRow av j → j < cb := fun j hj => by have := (D.row.above j hj).2; omega
    have hvm : ∀ j, inRow av j → m ≤ j := fun j hj => (D.row.above j hj).1
    rw [← hcb] at hn hglen
    simp [f4, f6, f7, c', ← hcb]
    generalize g ++ [Blk.cells [Value.int .i64 0, .int .i64 0, .int .i64 0, .int .i64 0, .int .i64 0] false none] = e0 at hn R0 D0 s0 hglen ⊢
    refine after_call (rcount_o 2147483647 R0) ?_
    rintro w e0' ⟨rfl, Q0, u0⟩
    rw [show (((cntO 2147483647 o).1 : Nat) : Int) = (oneR o).1.no from rfl]
    have hc0 := u0.at hn (by omega)
    have ht0 := hp_lt hc0
    have p0 := put_cell (oneR o).1.no hc0 (j := 0) (by simp)
    simp only [List.set_cons_zero] at p0
    have y0 : Upd (fun j => j = cb) e0' (e0'.set cb (.cells [.int .i64 (oneR o).1.no, .int .i64 0, .int .i64 0, .int .i64 0, .int .i64 0] false none)) := Upd.set (S := (· = cb)) rfl _
    have hn : (e0'.set cb (.cells [.int .i64 (oneR o).1.no, .int .i64 0, .int .i64 0, .int .i64 0, .int .i64 0] false none))[cb]? = some (.cells [.int .i64 (oneR o).1.no, .int .i64 0, .int .i64 0, .int .i64 0, .int .i64 0] false none) := by simp [ht0]
    generalize e0'.set cb (.cells [.int .i64 (oneR o).1.no, .int .i64 0, .int .i64 0, .int .i64 0, .int .i64 0] false none) = d1 at p0 y0 hn
    have R1 := Q0.upd y0 (fun j _ h2 e => by omega)
    have D1 := (D0.upd u0 (by omega) (fun j hj e => by have := hvm j hj; omega)).upd y0 (by omega) (fun j hj e => by have := hvb j hj; omega)
    have s1 : Same h d1 := Upd.trans (Upd.trans s0 u0 fun j hj e => by omega) y0 fun j hj e => by omega
    simp [f4, p0, -store_ptr]
    refine after_call (rcount_o 2147483647 R1) ?_
    rintro w e1' ⟨rfl, Q1, u1⟩
    rw [show (((cntO 2147483647 (cntO 2147483647 o).2).1 : Nat) : Int) = (oneR o).1.pipe from rfl]
    have hc1 := u1.at hn (by omega)
    have ht1 := hp_lt hc1
    have p1 := put_cell (oneR o).1.pipe hc1 (j := 1) (by simp)
    simp only [List.set_cons_zero, List.set_cons_succ] at p1
    have y1 : Upd (fun j => j = cb) e1' (e1'.set cb (.cells [.int .i64 (oneR o).1.no, .int .i64 (oneR o).1.pipe, .int .i64 0, .int .i64 0, .int .i64 0] false none)) := Upd.set (S := (· = cb)) rfl _
    have hn : (e1'.set cb (.cells [.int .i64 (oneR o).1.no, .int .i64 (oneR o).1.pipe, .int .i64 0, .int .i64 0, .int .i64 0] false none))[cb]? = some (.cells [.int .i64 (oneR o).1.no, .int .i64 (oneR o).1.pipe, .int .i64 0, .int .i64 0, .int .i64 0] false none) := by simp [ht1]
    generalize e1'.set cb (.cells [.int .i64 (oneR o).1.no, .int .i64 (oneR o).1.pipe, .int .i64 0, .int .i64 0, .int .i64 0] false none) = d2 at p1 y1 hn
    have R2 := Q1.upd y1 (fun j _ h2 e => by omega)
    have D2 := (D1.upd u1 (by omega) (fun j hj e => by have := hvm j hj; omega)).upd y1 (by omega) (fun j hj e => by have := hvb j hj; omega)
    have s2 : Same h d2 := Upd.trans (Upd.trans s1 u1 fun j hj e => by omega) y1 fun j hj e => by omega
    simp [f4, p1, -store_ptr]
    refine after_call (rcount_o 2147483647 R2) ?_
    rintro w e2' ⟨rfl, Q2, u2⟩
    rw [show (((cntO 2147483647 (cntO 2147483647 (cntO 2147483647 o).2).2).1 : Nat) : Int) = (oneR o).1.job from rfl]
    have hc2 := u2.at hn (by omega)
    have ht2 := hp_lt hc2
    have p2 := put_cell (oneR o).1.job hc2 (j := 2) (by simp)
    simp only [List.set_cons_zero, List.set_cons_succ] at p2
    have y2 : Upd (fun j => j = cb) e2' (e2'.set cb (.cells [.int .i64 (oneR o).1.no, .int .i64 (oneR o).1.pipe, .int .i64 (oneR o).1.job, .int .i64 0, .int .i64 0] false none)) := Upd.set (S := (· = cb)) rfl _
    have hn : (e2'.set cb (.cells [.int .i64 (oneR o).1.no, .int .i64 (oneR o).1.pipe, .int .i64 (oneR o).1.job, .int .i64 0, .int .i64 0] false none))[cb]? = some (.cells [.int .i64 (oneR o).1.no, .int .i64 (oneR o).1.pipe, .int .i64 (oneR o).1.job, .int .i64 0, .int .i64 0] false none) := by simp [ht2]
    generalize e2'.set cb (.cells [.int .i64 (oneR o).1.no, .int .i64 (oneR o).1.pipe, .int .i64 (oneR o).1.job, .int .i64 0, .int .i64 0] false none) = d3 at p2 y2 hn
    have R3 := Q2.upd y2 (fun j _ h2 e => by omega)
    have D3 := (D2.upd u2 (by omega) (fun j hj e => by have := hvm j hj; omega)).upd y2 (by omega) (fun j hj e => by have := hvb j hj; omega)
    have s3 : Same h d3 := Upd.trans (Upd.trans s2 u2 fun j hj e => by omega) y2 fun j hj e => by omega
    simp [f4, p2, -store_ptr]
    refine after_call (rcount_o 2147483647 R3) ?_
    rintro w e3' ⟨rfl, Q3, u3⟩
    rw [show (((cntO 2147483647 (cntO 2147483647 (cntO 2147483647 (cntO 2147483647 o).2).2).2).1 : Nat) : Int) = (oneR o).1.runner from rfl]
    have hc3 := u3.at hn (by omega)
    have ht3 := hp_lt hc3
    have p3 := put_cell (oneR o).1.runner hc3 (j := 3) (by simp)
    simp only [List.set_cons_zero, List.set_cons_succ] at p3
    have y3 : Upd (fun j => j = cb) e3' (e3'.set cb (.cells [.int .i64 (oneR o).1.no, .int .i64 (oneR o).1.pipe, .int .i64 (oneR o).1.job, .int .i64 (oneR o).1.runner, .int .i64 0] false none)) := Upd.set (S := (· = cb)) rfl _
    have hn : (e3'.set cb (.cells [.int .i64 (oneR o).1.no, .int .i64 (oneR o).1.pipe, .int .i64 (oneR o).1.job, .int .i64 (oneR o).1.runner, .int .i64 0] false none))[cb]? = some (.cells [.int .i64 (oneR o).1.no, .int .i64 (oneR o).1.pipe, .int .i64 (oneR o).1.job, .int .i64 (oneR o).1.runner, .int .i64 0] false none) := by simp [ht3]
    generalize e3'.set cb (.cells [.int .i64 (oneR o).1.no, .int .i64 (oneR o).1.pipe, .int .i64 (oneR o).1.job, .int .i64 (oneR o).1.runner, .int .i64 0] false none) = d4 at p3 y3 hn
    have R4 := Q3.upd y3 (fun j _ h2 e => by omega)
    have D4 := (D3.upd u3 (by omega) (fun j hj e => by have := hvm j hj; omega)).upd y3 (by omega) (fun j hj e => by have := hvb j hj; omega)
    have s4 : Same h d4 := Upd.trans (Upd.trans s3 u3 fun j hj e => by omega) y3 fun j hj e => by omega
    simp [f4, p3, -store_ptr]
    refine after_call (rcount_o 2147483647 R4) ?_
    rintro w e4' ⟨rfl, Q4, u4⟩
    rw [show (((cntO 2147483647 (cntO 2147483647 (cntO 2147483647 (cntO 2147483647 (cntO 2147483647 o).2).2).2).2).1 : Nat) : Int) = (oneR o).1.heard from rfl]
    have hc4 := u4.at hn (by omega)
    have ht4 := hp_lt hc4
    have p4 := put_cell (oneR o).1.heard hc4 (j := 4) (by simp)
    simp only [List.set_cons_zero, List.set_cons_succ] at p4
    have y4 : Upd (fun j => j = cb) e4' (e4'.set cb (.cells [.int .i64 (oneR o).1.no, .int .i64 (oneR o).1.pipe, .int .i64 (oneR o).1.job, .int .i64 (oneR o).1.runner, .int .i64 (oneR o).1.heard] false none)) := Upd.set (S := (· = cb)) rfl _
    have hn : (e4'.set cb (.cells [.int .i64 (oneR o).1.no, .int .i64 (oneR o).1.pipe, .int .i64 (oneR o).1.job, .int .i64 (oneR o).1.runner, .int .i64 (oneR o).1.heard] false none))[cb]? = some (.cells [.int .i64 (oneR o).1.no, .int .i64 (oneR o).1.pipe, .int .i64 (oneR o).1.job, .int .i64 (oneR o).1.runner, .int .i64 (oneR o).1.heard] false none) := by simp [ht4]
    generalize e4'.set cb (.cells [.int .i64 (oneR o).1.no, .int .i64 (oneR o).1.pipe, .int .i64 (oneR o).1.job, .int .i64 (oneR o).1.runner, .int .i64 (oneR o).1.heard] false none) = d5 at p4 y4 hn
    have R5 := Q4.upd y4 (fun j _ h2 e => by omega)
    have D5 := (D4.upd u4 (by omega) (fun j hj e => by have := hvm j hj; omega)).upd y4 (by omega) (fun j hj e => by have := hvb j hj; omega)
    have s5 : Same h d5 := Upd.trans (Upd.trans s4 u4 fun j hj e => by omega) y4 fun j hj e => by omega
    simp [p4, -store_ptr]
    have R5 : RRO d5 h.length m rb (oneR o).2 := R5
    obtain ⟨x, hx0⟩ : ∃ x, x = (oneR o).1 := ⟨_, rfl⟩
    obtain ⟨o', ho0⟩ : ∃ o', o' = (oneR o).2 := ⟨_, rfl⟩
    rw [← hx0] at hn ⊢
    rw [← ho0] at R5
    clear R R0 R1 R2 R3 R4 Q0 Q1 Q2 Q3 Q4 u0 u1 u2 u3 u4 y0 y1 y2 y3 y4 hc0 hc1 hc2 hc3 hc4 ht0 ht1 ht2 ht3 ht4 p0 p1 p2 p3 p4 s0 s1 s2 s3 s4 D D0 D1 D2 D3 D4
    have hx : d5[cb]? = some (.cells x.five false none) := hn
    have lx := ld5 hx
    have lx0 := load_at (P := Try.prog) (t := 3) (o := 0) hn (by simp)
    simp only [List.getElem?_cons_zero] at lx0
    have ll := D5.l0
    have lv := D5.l1
    have hlc := hp_lt hn
    refine WpA.drawnT [0, 1, 2, 3, 4, 5, 6, 7, 8, 9, 10, 11, 12, 13, 14, 15, 16, 17, 18, 19, 20, 21, 22, 23, 24, 25, 26, 27, 28, 29, 30, 31, 32, 33, 34, 35, 36, 37, 38, 39, 40, 41, 42, 43, 44] [[], [0], [], [], [], [0, 1, 2, 3, 4], [], [], [], [], [], [], [], [], [], [], [], [], [], [], [], [], [], [], [], [], [], [], [], [], [], [], [], [], [], [], [], [], [], [], [], [], [], [0, 1, 2, 3, 4, 5, 6, 7, 8, 9, 10, 11, 12, 13, 14, 15, 16, 17, 18, 19, 20, 21, 22, 23, 24, 25, 26, 27, 28, 29, 30, 31, 32, 33, 34, 35, 36, 37, 38, 39, 40, 41, 42]] [[], [0], [0, 1], [0, 1, 2], [0, 1, 2, 3], [0, 1, 2, 3, 4], [0, 1, 2, 3, 4, 5], [0, 1, 2, 3, 4, 5, 6], [0, 1, 2, 3, 4, 5, 6, 7], [0, 1, 2, 3, 4, 5, 6, 7, 8], [0, 1, 2, 3, 4, 5, 6, 7, 8, 9], [0, 1, 2, 3, 4, 5, 6, 7, 8, 9, 10], [0, 1, 2, 3, 4, 5, 6, 7, 8, 9, 10, 11], [0, 1, 2, 3, 4, 5, 6, 7, 8, 9, 10, 11, 12], [0, 1, 2, 3, 4, 5, 6, 7, 8, 9, 10, 11, 12, 13], [0, 1, 2, 3, 4, 5, 6, 7, 8, 9, 10, 11, 12, 13, 14], [0, 1, 2, 3, 4, 5, 6, 7, 8, 9, 10, 11, 12, 13], [0, 1, 2, 3, 4, 5, 6, 7, 8, 9, 10, 11, 12, 13, 16], [0, 1, 2, 3, 4, 5, 6, 7, 8, 9, 10, 11, 12, 13, 16, 17], [0, 1, 2, 3, 4, 5, 6, 7, 8, 9, 10, 11, 12, 13, 16, 17, 18], [0, 1, 2, 3, 4, 5, 6, 7, 8, 9, 10, 11, 12, 13, 14, 15, 16, 17, 18, 19], [0, 1, 2, 3, 4, 5, 6, 7, 8, 9, 10, 11, 12, 13, 14, 15, 16, 17, 18, 19, 20], [0, 1, 2, 3, 4, 5, 6, 7, 8, 9, 10, 11, 12, 13, 14, 15, 16, 17, 18, 19, 20, 21], [0, 1, 2, 3, 4, 5, 6, 7, 8, 9, 10, 11, 12, 13, 14, 15, 16, 17, 18, 19, 20, 21, 22], [0, 1, 2, 3, 4, 5, 6, 7, 8, 9, 10, 11, 12, 13, 14, 15, 16, 17, 18, 19, 20, 21, 22, 23], [0, 1, 2, 3, 4, 5, 6, 7, 8, 9, 10, 11, 12, 13, 14, 15, 16, 17, 18, 19, 20, 21, 22, 23, 24], [0, 1, 2, 3, 4, 5, 6, 7, 8, 9, 10, 11, 12, 13, 14, 15, 16, 17, 18, 19, 20, 21, 22, 23, 24, 25], [0, 1, 2, 3, 4, 5, 6, 7, 8, 9, 10, 11, 12, 13, 14, 15, 16, 17, 18, 19, 20, 21, 22, 23, 24, 25, 26], [0, 1, 2, 3, 4, 5, 6, 7, 8, 9, 10, 11, 12, 13, 14, 15, 16, 17, 18, 19, 20, 21, 22, 23, 24, 25], [0, 1, 2, 3, 4, 5, 6, 7, 8, 9, 10, 11, 12, 13, 14, 15, 16, 17, 18, 19, 20, 21, 22, 23, 24, 25, 28], [0, 1, 2, 3, 4, 5, 6, 7, 8, 9, 10, 11, 12, 13, 14, 15, 16, 17, 18, 19, 20, 21, 22, 23, 24, 25, 28, 29], [0, 1, 2, 3, 4, 5, 6, 7, 8, 9, 10, 11, 12, 13, 14, 15, 16, 17, 18, 19, 20, 21, 22, 23, 24, 25, 28, 29, 30], [0, 1, 2, 3, 4, 5, 6, 7, 8, 9, 10, 11, 12, 13, 14, 15, 16, 17, 18, 19, 20, 21, 22, 23, 24, 25], [0, 1, 2, 3, 4, 5, 6, 7, 8, 9, 10, 11, 12, 13, 14, 15, 16, 17, 18, 19, 20, 21, 22, 23, 24, 25, 32], [0, 1, 2, 3, 4, 5, 6, 7, 8, 9, 10, 11, 12, 13, 14, 15, 16, 17, 18, 19, 20, 21, 22, 23, 24, 25, 28, 29, 30, 31, 32, 33], [0, 1, 2, 3, 4, 5, 6, 7, 8, 9, 10, 11, 12, 13, 14, 15, 16, 17, 18, 19, 20, 21, 22, 23, 24, 25, 28, 29, 30, 31, 32, 33, 34], [0, 1, 2, 3, 4, 5, 6, 7, 8, 9, 10, 11, 12, 13, 14, 15, 16, 17, 18, 19, 20, 21, 22, 23, 24, 25, 28, 29, 30, 31, 32, 33, 34, 35], [0, 1, 2, 3, 4, 5, 6, 7, 8, 9, 10, 11, 12, 13, 14, 15, 16, 17, 18, 19, 20, 21, 22, 23, 24, 25, 26, 27, 28, 29, 30, 31, 32, 33, 34, 35, 36], [0, 1, 2, 3, 4, 5, 6, 7, 8, 9, 10, 11, 12, 13, 14, 15, 16, 17, 18, 19, 20, 21, 22, 23, 24, 25, 26, 27, 28, 29, 30, 31, 32, 33, 34, 35, 36, 37], [0, 1, 2, 3, 4, 5, 6, 7, 8, 9, 10, 11, 12, 13, 14, 15, 16, 17, 18, 19, 20, 21, 22, 23, 24, 25, 26, 27, 28, 29, 30, 31, 32, 33, 34, 35, 36, 37, 38], [0, 1, 2, 3, 4, 5, 6, 7, 8, 9, 10, 11, 12, 13, 14, 15, 16, 17, 18, 19, 20, 21, 22, 23, 24, 25, 26, 27, 28, 29, 30, 31, 32, 33, 34, 35, 36, 37, 38, 39], [0, 1, 2, 3, 4, 5, 6, 7, 8, 9, 10, 11, 12, 13, 14, 15, 16, 17, 18, 19, 20, 21, 22, 23, 24, 25, 26, 27, 28, 29, 30, 31, 32, 33, 34, 35, 36, 37, 38, 39, 40], [0, 1, 2, 3, 4, 5, 6, 7, 8, 9, 10, 11, 12, 13, 14, 15, 16, 17, 18, 19, 20, 21, 22, 23, 24, 25, 26, 27, 28, 29, 30, 31, 32, 33, 34, 35, 36, 37, 38, 39, 40], [0, 1, 2, 3, 4, 5, 6, 7, 8, 9, 10, 11, 12, 13, 14, 15, 16, 17, 18, 19, 20, 21, 22, 23, 24, 25, 26, 27, 28, 29, 30, 31, 32, 33, 34, 35, 36, 37, 38, 39, 40, 41, 42], [0, 1, 2, 3, 4, 5, 6, 7, 8, 9, 10, 11, 12, 13, 14, 15, 16, 17, 18, 19, 20, 21, 22, 23, 24, 25, 26, 27, 28, 29, 30, 31, 32, 33, 34, 35, 36, 37, 38, 39, 40, 41, 42, 43]] (by kernel_rfl) (by decide +kernel) (by decide +kernel) (by decide +kernel) ?_
    simp [f4, -load_ptr]
    refine after_call (rok_o R5) ?_
    rintro w g6 ⟨rfl, rfl⟩
    cases o' with
    | none =>
      rw [hread, readR_dead ho0.symm]
      simp
      exact s5
    | some rest =>
    simp [lx, -load_ptr]
    refine after_call (rgood_ev x g6) ?_
    rintro w g7 ⟨s7, rfl⟩
    have D7 := D5.same s7
    have R7 := R5.same s7
    have sm7 := s5.trans s7
    have hx7 := s7.at hx
    have lx7 := ld5 hx7
    have lx0 := load_at (P := Try.prog) (t := 3) (o := 0) hx7 (by simp)
    simp only [Bd.five, List.getElem?_cons_zero] at lx0
    have ll := D7.l0
    have lv := D7.l1
    cases hgd : x.good with
    | false =>
      rw [hread, readR_bad (by rw [← hx0]; exact hgd)]
      simp [lx7, -load_ptr]
      exact sm7
    | true =>
    have hon : oneB o = oneR o := oneR_good (by rw [← hx0]; exact hgd)
    simp only [readB] at hread
    rw [hon, ← hx0, ← ho0] at hread
    by_cases p1 : x.no < 1
    · rw [if_pos (.inl (by omega))] at hread
      rw [hread]
      simp [lx7, lx0, p1, endB, -load_ptr]
      exact sm7
    by_cases p2 : last < x.no
    · rw [if_pos (.inr (.inl p2))] at hread
      rw [hread]
      simp [lx7, f5, lx0, ll, p1, p2, endB, -load_ptr]
      exact sm7
    have hA4 := D7.ok.few
    cases i with
    | zero =>
      have hA0 : A = [] := List.length_eq_zero_iff.1 hA
      have hl0 : lastNo A = 0 := by rw [hA0]; rfl
      simp [lx7, f5, f7, lx0, ll, p1, p2, -load_ptr]
      refine after_call (rbusy_ev D7 x) ?_
      rintro w g8 ⟨s8, rfl⟩
      have D8 := D7.same s8
      have R8 := R7.same s8
      have sm8 := sm7.trans s8
      have hx8 := s8.at hx7
      have lx8 := ld5 hx8
      have lx08 := load_at (P := Try.prog) (t := 3) (o := 0) hx8 (by simp)
      simp only [Bd.five, List.getElem?_cons_zero] at lx08
      have ll8 := D8.l0
      have lv8 := D8.l1
      cases hbz : busyB A x with
      | true =>
        rw [if_pos (.inr (.inr (.inr hbz)))] at hread
        rw [hread]
        simp [lx8, endB, -load_ptr]
        exact sm8
      | false =>
      rw [if_neg (by rw [hgd, hbz]; simp; omega)] at hread
      have hAc : A.length + 1 ≤ 1000 := by omega
      obtain ⟨v', g9, e9, A9, u9, n9⟩ := appF4 D8.row (by have := D8.lt; omega) (by omega) x
      have sx : Same g8 (g8 ++ [.cells x.five false none]) := Same.new _
      have hB8 := sx.at D8.at_
      have hx9 := sx.at hx8
      have lx9 := ld5 hx9
      have lv9 := load_at (P := Try.prog) (t := 48) (o := 1) hB8 (by simp)
      simp only [List.getElem?_cons_zero, List.getElem?_cons_succ] at lv9
      have hB9 := u9.at hB8 (fun e => D8.ne m e rfl)
      have hcv := (Row.one A9.row).1
      have hov := (Row.one A9.row).2
      have hd9 := hp_lt hB9
      have hd8 := D8.lt
      have p9 : storeA Try.prog 48 (.pointer (some ⟨m, 1, none⟩)) v' g9 = some (g9.set m (.cells [.int .i64 last, v'] false none)) := by simp [storeA, hB9, hcv, hov, spl]
      have y9 : Upd (fun j => j = m) g9 (g9.set m (.cells [.int .i64 last, v'] false none)) := Upd.set (S := (· = m)) rfl _
      have hB10 : (g9.set m (.cells [.int .i64 last, v'] false none))[m]? = some (.cells [.int .i64 last, v'] false none) := by simp [hd9]
      have ne9 : ∀ j, inRow v' j → j ≠ m := fun j hj => by
        rcases n9 j hj with e | e
        · exact D8.ne j e
        · omega
      have A10 := A9.upd y9 ne9
      have hrise : ∀ y ∈ A, y.no < x.no := fun y hy => by have := hatle y hy; omega
      have hok := D8.ok.add hrise (by omega) (by omega) hgd hbz
      have R9 := (R8.same sx).upd u9 (fun j h1 h2 e => by have := (D8.row.above j e).1; omega)
      have R10 := R9.upd y9 (fun j h1 h2 e => by omega)
      have sm9 : Same h g9 := Upd.trans (sm8.trans sx) u9 fun j hj e => by have := (D8.row.above j e).1; omega
      have sm10 : Same h (g9.set m (.cells [.int .i64 last, v'] false none)) := Upd.trans sm9 y9 fun j hj e => by omega
      generalize g9.set m (.cells [.int .i64 last, v'] false none) = g10 at p9 y9 hB10 A10 R10 sm10
      obtain ⟨gX, hX⟩ : ∃ gX, gX = g8 ++ [.cells x.five false none] := ⟨_, rfl⟩
      have hX' : g8 ++ [Blk.cells [.int .i64 x.no, .int .i64 x.pipe, .int .i64 x.job, .int .i64 x.runner, .int .i64 x.heard] false none] = gX := hX.symm
      rw [← hX] at lv9 lx9
      rw [hX'] at e9
      simp [lx8, -load_ptr]
      refine WpA.drawnA [0, 1, 2, 3, 4, 5, 6, 7, 8, 9, 10] [[], [], [], [], [], [], [], [1, 2, 3, 4, 5, 6], [], [], [0, 1, 2, 3, 4, 5, 6, 7, 8, 9]] (by kernel_rfl) (by decide +kernel) (by decide +kernel) ?_
      simp [f5, f7, lv8, lx8, zeros, spl, capO, hX', lv9, lx9, e9, p9, -load_ptr, -store_ptr, -roundQ_normal, ↓rq]
      exact ⟨n - (0 + 1), by omega, 0 + 1, rest, A ++ [x], v', rfl, by omega, by simp [f4], by simp [f5], by simp [f6], by simp, R10, ⟨hB10, by simpa using A10, ne9, D8.kd, hok⟩, sm10, by simp [hA], by rw [hread, lastNo_add]⟩
    | succ j =>
      obtain ⟨hj, hlj⟩ := lastNo_at hA
      have wj : IntKind.i64.wrap ((j : Nat) : Int) = ((j : Nat) : Int) := wrap_i64 (by omega) (by omega)
      have wk : IntKind.i64.wrap ((j : Int) + 1 + 1) = (j : Int) + 1 + 1 := wrap_i64 (by omega) (by omega)
      have ia := FIA D7.fr hj
      have c0 := FC0 D7.fr hj
      rw [← hlj] at c0
      have hjp : (0 : Int) < ((j + 1 : Nat) : Int) := by omega
      by_cases p3 : x.no ≤ lastNo A
      · rw [if_pos (.inl p3)] at hread
        rw [hread]
        simp [lx7, f5, f7, lx0, ll, lv, p1, p2, p3, ia, c0, wj, endB, -load_ptr]
        exact sm7
      simp [lx7, f5, f7, lx0, ll, lv, p1, p2, p3, ia, c0, wj, -load_ptr]
      refine after_call (rbusy_ev D7 x) ?_
      rintro w g8 ⟨s8, rfl⟩
      have D8 := D7.same s8
      have R8 := R7.same s8
      have sm8 := sm7.trans s8
      have hx8 := s8.at hx7
      have lx8 := ld5 hx8
      have lx08 := load_at (P := Try.prog) (t := 3) (o := 0) hx8 (by simp)
      simp only [Bd.five, List.getElem?_cons_zero] at lx08
      have ll8 := D8.l0
      have lv8 := D8.l1
      cases hbz : busyB A x with
      | true =>
        rw [if_pos (.inr (.inr (.inr hbz)))] at hread
        rw [hread]
        simp [lx8, endB, -load_ptr]
        exact sm8
      | false =>
      rw [if_neg (by rw [hgd, hbz]; simp; omega)] at hread
      have hAc : A.length + 1 ≤ 1000 := by omega
      obtain ⟨v', g9, e9, A9, u9, n9⟩ := appF4 D8.row (by have := D8.lt; omega) (by omega) x
      have sx : Same g8 (g8 ++ [.cells x.five false none]) := Same.new _
      have hB8 := sx.at D8.at_
      have hx9 := sx.at hx8
      have lx9 := ld5 hx9
      have lv9 := load_at (P := Try.prog) (t := 48) (o := 1) hB8 (by simp)
      simp only [List.getElem?_cons_zero, List.getElem?_cons_succ] at lv9
      have hB9 := u9.at hB8 (fun e => D8.ne m e rfl)
      have hcv := (Row.one A9.row).1
      have hov := (Row.one A9.row).2
      have hd9 := hp_lt hB9
      have hd8 := D8.lt
      have p9 : storeA Try.prog 48 (.pointer (some ⟨m, 1, none⟩)) v' g9 = some (g9.set m (.cells [.int .i64 last, v'] false none)) := by simp [storeA, hB9, hcv, hov, spl]
      have y9 : Upd (fun j => j = m) g9 (g9.set m (.cells [.int .i64 last, v'] false none)) := Upd.set (S := (· = m)) rfl _
      have hB10 : (g9.set m (.cells [.int .i64 last, v'] false none))[m]? = some (.cells [.int .i64 last, v'] false none) := by simp [hd9]
      have ne9 : ∀ j, inRow v' j → j ≠ m := fun j hj => by
        rcases n9 j hj with e | e
        · exact D8.ne j e
        · omega
      have A10 := A9.upd y9 ne9
      have hrise : ∀ y ∈ A, y.no < x.no := fun y hy => by have := hatle y hy; omega
      have hok := D8.ok.add hrise (by omega) (by omega) hgd hbz
      have R9 := (R8.same sx).upd u9 (fun j h1 h2 e => by have := (D8.row.above j e).1; omega)
      have R10 := R9.upd y9 (fun j h1 h2 e => by omega)
      have sm9 : Same h g9 := Upd.trans (sm8.trans sx) u9 fun j hj e => by have := (D8.row.above j e).1; omega
      have sm10 : Same h (g9.set m (.cells [.int .i64 last, v'] false none)) := Upd.trans sm9 y9 fun j hj e => by omega
      generalize g9.set m (.cells [.int .i64 last, v'] false none) = g10 at p9 y9 hB10 A10 R10 sm10
      obtain ⟨gX, hX⟩ : ∃ gX, gX = g8 ++ [.cells x.five false none] := ⟨_, rfl⟩
      have hX' : g8 ++ [Blk.cells [.int .i64 x.no, .int .i64 x.pipe, .int .i64 x.job, .int .i64 x.runner, .int .i64 x.heard] false none] = gX := hX.symm
      rw [← hX] at lv9 lx9
      rw [hX'] at e9
      simp [lx8, -load_ptr]
      refine WpA.drawnA [0, 1, 2, 3, 4, 5, 6, 7, 8, 9, 10] [[], [], [], [], [], [], [], [1, 2, 3, 4, 5, 6], [], [], [0, 1, 2, 3, 4, 5, 6, 7, 8, 9]] (by kernel_rfl) (by decide +kernel) (by decide +kernel) ?_
      simp [f5, f7, lv8, lx8, zeros, spl, capO, hX', lv9, lx9, e9, p9, wk, -load_ptr, -store_ptr, -roundQ_normal, ↓rq]
      exact stop_intro ⟨n - ((j + 1) + 1), by omega, (j + 1) + 1, rest, A ++ [x], v', rfl, by omega, by simp [f4], by simp [f5], by simp [f6], by simp, R10, ⟨hB10, by simpa using A10, ne9, D8.kd, hok⟩, sm10, by simp [hA], by rw [hread, lastNo_add]⟩
  · have c' : ¬ (i : Int) < n := by omega
    have hz : n - i = 0 := by omega
    rw [hz] at hread
    simp only [readB] at hread
    rw [hread]
    simp [f4, f6, f7, c']
    refine after_call (rdone_o R) ?_
    rintro w g7 ⟨rfl, rfl⟩
    by_cases co : o = some []
    · simp [f5, co, endB]
      exact ⟨sm, av, D.at_, D.row.down hhm, D.ne, hhm, D.ok⟩
    · simp [co, endB]
      exact sm
end
end Go.Proofs.Ytaahkamnpobofaa
