/- The parser of conditions: rows and terms; no condition. -/
import Derived.Test.YtbamofeocfbjbaaExprC
namespace Go.Proofs.Ytbamofeocfbjbaa
open Go.Ab Go.Glob
theorem termE_cmp {d : Nat} {ws r : List Bs} {a b : Bs} {o : Nat} (h : cmpA ws = some (a, o, b, r)) : termE d ws = .ok (cmpV o a b) [a, b] r := by rw [termE.eq_def, h]
theorem termE_not {d : Nat} {q : List Bs} (h : cmpA (wNot :: q) = none) : termE d (wNot :: q) = if 64 ≤ d then .bad 65 else (termE (d + 1) q).neg := by
  rw [termE.eq_def, h]; simp
theorem termE_open {d : Nat} {q : List Bs} (h : cmpA (wOpen :: q) = none) : termE d (wOpen :: q) = if 64 ≤ d then .bad 65 else (rowE (d + 1) false true q).shut := by
  rw [termE.eq_def, h]; simp [wOpen, wNot]
theorem termE_else {d : Nat} {ws : List Bs} (h : cmpA ws = none) (h1 : ∀ q, ws ≠ wNot :: q) (h2 : ∀ q, ws ≠ wOpen :: q) : termE d ws = .bad 4 := by
  rw [termE.eq_def, h]
  cases ws with
  | nil => rfl
  | cons w q =>
    have e1 : w ≠ wNot := fun e => h1 q (by rw [e])
    have e2 : w ≠ wOpen := fun e => h2 q (by rw [e])
    simp [e1, e2]
/-- terms of at most n words are parsed as they are told -/
def TermOk (n : Nat) : Prop := ∀ ws : List Bs, ws.length ≤ n → ∀ (g : Hp) (pb k : Nat) (wv tv : Value) (ts : List Bs) (d : Nat), PS g pb k wv tv ws ts d →
  EvA Try.prog 82 [.pointer (some ⟨pb, 0, none⟩)] (fun r g' => Post g pb k tv ts d (termE d ws) r g') g
def RowOk (n : Nat) : Prop := ∀ ws : List Bs, ws.length ≤ n → ∀ (g : Hp) (pb k : Nat) (wv tv : Value) (ts : List Bs) (d : Nat), PS g pb k wv tv ws ts d →
  EvA Try.prog 52 [.pointer (some ⟨pb, 0, none⟩)] (fun r g' => Post g pb k tv ts d (rowE d false true ws) r g') g
/-- lists of terms with and between -/
def AndSt (d : Nat) (ws : List Bs) (o : Out) : Prop := ∃ lo, LR (fun ws o => termE d ws = o) wAnd ws lo ∧ o = andO lo
section
variable {h h' g : Hp} {pb k d : Nat} {wv tv : Value} {ws ts : List Bs} {S : Nat → Prop}
theorem if_all (x : Value) : ifaceA Try.prog 104 x = some (.iface 104 x) := by simp [ifaceA]
theorem if_one (x : Value) : ifaceA Try.prog 106 x = some (.iface 106 x) := by simp [ifaceA]
theorem if_no (x : Value) : ifaceA Try.prog 101 x = some (.iface 101 x) := by simp [ifaceA]
theorem if_cmp (x : Value) : ifaceA Try.prog 99 x = some (.iface 99 x) := by simp [ifaceA]
theorem boxP {tb : Nat} {h : Hp} (hb : h[tb]? = some (.cells [.pointer (some ⟨pb, 0, none⟩)] false none)) : loadA Try.prog 72 (.pointer (some ⟨tb, 0, none⟩)) h = some (.pointer (some ⟨pb, 0, none⟩)) := by rw [load_at hb (by simp)]; rfl
set_option maxRecDepth 6000 in
set_option maxHeartbeats 1000000 in
theorem row1_ev (hT : TermOk ws.length) (m : PS h pb k wv tv ws ts d) {tb : Nat} (hb : h[tb]? = some (.cells [.pointer (some ⟨pb, 0, none⟩)] false none)) :
    EvA Try.prog 81 [.pointer (some ⟨tb, 0, none⟩)] (fun r h' => ∃ out, AndSt d ws out ∧ Post h pb k tv ts d out r h') h := by
  refine EvA.body Try.func81 rfl (by kernel_rfl) (by simp) ?_
  apply Run.ok
  have lb := boxP hb
  simp [lb, -load_ptr]
  refine after_call (list_ev m wAnd 82 #[.pointer (some ⟨pb, 0, none⟩)] #[] (fun ws o => termE d ws = o) (fun ws v t r he => termE_lt he) (fun ws c he => by have := (bads_are _ ws (Nat.le_refl _)).1 _ _ he; omega) (fun g wv1 tv1 ws1 ts1 hl u M => ?_)) ?_
  · exact EvA.mono (hT ws1 hl g pb k wv1 tv1 ts1 d M) fun r g' q => ⟨_, rfl, q⟩
  rintro r g' ⟨o, ho, lv, e, rfl, hc, hone, hu, hq⟩
  simp [hc, hone, spl, if_all, if_one, if_no]
  cases o with
  | bad c =>
    obtain ⟨rfl, wv', tv', hp⟩ := hq
    exact ⟨.bad e, ⟨.bad e, ho, rfl⟩, .iface 104 (.agg #[lv]), e, rfl, by simp, by simp, hu, rfl, wv', tv', hp⟩
  | ok vs t rest =>
    obtain ⟨rfl, wv', tv', xs, M', htv, hvl, A, hot, hfew, hmean⟩ := hq
    exact ⟨.ok (vs.all id) t rest, ⟨.ok vs t rest, ho, rfl⟩, .iface 104 (.agg #[lv]), 0, rfl, by simp, by simp, hu, rfl, wv', tv', M', htv, .all vs hvl (by omega) A.row (fun j hj => ⟨(A.above j hj).1, (A.above j hj).2, hot j hj⟩) hmean⟩
set_option maxRecDepth 6000 in
set_option maxHeartbeats 1000000 in
theorem row_ev {n : Nat} (hT : TermOk n) : RowOk n := by
  intro ws hn h pb k wv tv ts d m
  refine EvA.body Try.func52 rfl (by kernel_rfl) (by simp) ?_
  apply Run.ok
  simp
  have sA : Same h (h ++ [.cells [.pointer (some ⟨pb, 0, none⟩)] false none]) := Same.new _
  have hb : (h ++ [Blk.cells [.pointer (some ⟨pb, 0, none⟩)] false none])[h.length]? = some (.cells [.pointer (some ⟨pb, 0, none⟩)] false none) := by simp
  generalize h ++ [Blk.cells [.pointer (some ⟨pb, 0, none⟩)] false none] = hA at sA hb ⊢
  have MA := m.same sA
  have hkh := m.kh
  have hpk := m.pk
  have hAl := sA.len
  refine after_call (list_ev MA wOr 81 #[] #[.pointer (some ⟨h.length, 0, none⟩)] (AndSt d) (fun ws o t r ho => ?_) (fun ws c ho => ?_) (fun g wv1 tv1 ws1 ts1 hl u M => ?_)) ?_
  · obtain ⟨lo, h1, h2⟩ := ho
    cases lo with
    | bad => cases h2
    | ok vs t' r' =>
      simp only [andO, Out.ok.injEq] at h2
      obtain ⟨rfl, rfl, rfl⟩ := h2
      exact (h1.and.2 _ _ _ rfl).1
  · obtain ⟨lo, h1, h2⟩ := ho
    cases lo with
    | bad c' => cases h2; have := h1.andBad _ rfl; omega
    | ok => cases h2
  · exact row1_ev (fun ws' hw => hT ws' (by omega)) M (u.at hb fun hin => by
      rcases hin with h1 | h1
      · omega
      · have := (m.tr.above _ h1).2; omega)
  rintro r g' ⟨o, ho, lv, e, rfl, hc, hone, hu, hq⟩
  have hrow := ho.or (d := d) (fun ws o ho => ho) false
  have hU : Upd (fun j => j = pb ∨ inRow tv j) h g' := Upd.trans (sA.mono fun _ _ h => h.elim) hu fun _ _ h => h
  simp [hc, hone, spl, if_all, if_one, if_no]
  rw [hrow]
  cases o with
  | bad c =>
    obtain ⟨rfl, wv', tv', hp⟩ := hq
    exact ⟨_, e, rfl, by simp, by simp, hU, rfl, wv', tv', hp⟩
  | ok vs t rest =>
    obtain ⟨rfl, wv', tv', xs, M', htv, hvl, A, hot, hfew, hmean⟩ := hq
    simp only [LOut.fin, Bool.false_or]
    exact ⟨_, 0, rfl, by simp, by simp, hU, rfl, wv', tv', M', fun j hj => (htv j hj).imp id fun h1 => by omega,
      .one vs hvl (by omega) A.row (fun j hj => ⟨by have := (A.above j hj).1; omega, (A.above j hj).2, hot j hj⟩) (fun i hi => (hmean i hi).mono fun j hj => ⟨by omega, hj.2⟩)⟩
set_option maxRecDepth 6000 in
theorem term1_ev {n : Nat} (hT : TermOk n) (hn : ws.length ≤ n) (m : PS h pb k wv tv ws ts d) {tb : Nat} (hb : h[tb]? = some (.cells [.pointer (some ⟨pb, 0, none⟩)] false none)) :
    EvA Try.prog 104 [.pointer (some ⟨tb, 0, none⟩)] (fun r h' => ∃ out, out = (termE d ws).neg ∧ Post h pb k tv ts d out r h') h := by
  refine EvA.body Try.func104 rfl (by kernel_rfl) (by simp) ?_
  apply Run.ok
  have lb := boxP hb
  simp [lb, -load_ptr]
  refine after_call (hT ws hn h pb k wv tv ts d m) ?_
  rintro r g' ⟨x, e, rfl, hc, hone, hu, hq⟩
  simp [hc, hone, spl, if_all, if_one, if_no]
  cases ho : termE d ws with
  | bad c =>
    rw [ho] at hq
    obtain ⟨rfl, wv', tv', hp⟩ := hq
    exact ⟨.iface 101 (.agg #[x]), e, rfl, by simp, by simp, hu, rfl, wv', tv', hp⟩
  | ok v t rest =>
    rw [ho] at hq
    obtain ⟨rfl, wv', tv', M', htv, hm⟩ := hq
    exact ⟨.iface 101 (.agg #[x]), 0, rfl, by simp, by simp, hu, rfl, wv', tv', M', htv, .no hm⟩
set_option maxRecDepth 6000 in
theorem term2_ev {n : Nat} (hR : RowOk n) (hn : ws.length ≤ n) (m : PS h pb k wv tv ws ts d) {tb : Nat} (hb : h[tb]? = some (.cells [.pointer (some ⟨pb, 0, none⟩)] false none)) (htb : tb ≠ pb ∧ ¬ inRow tv tb) :
    EvA Try.prog 105 [.pointer (some ⟨tb, 0, none⟩)] (fun r h' => ∃ out, out = (rowE d false true ws).shut ∧ Post h pb k tv ts d out r h') h := by
  refine EvA.body Try.func105 rfl (by kernel_rfl) (by simp) ?_
  apply Run.ok
  have lb := boxP hb
  simp [lb, -load_ptr]
  refine after_call (hR ws hn h pb k wv tv ts d m) ?_
  rintro r g' ⟨x, e, rfl, hc, hone, hu, hq⟩
  have lb' := boxP (hu.at hb fun hin => by
    rcases hin with h1 | h1
    · exact htb.1 h1
    · exact htb.2 h1)
  cases ho : rowE d false true ws with
  | bad c =>
    rw [ho] at hq
    obtain ⟨rfl, wv', tv', hp⟩ := hq
    have hc0 := (bads_are _ ws (Nat.le_refl _)).2 _ _ _ _ ho
    have e' : ((e : Int) == 0) = false := by simp; omega
    simp [e']
    exact ⟨x, e, rfl, hc, hone, hu, rfl, wv', tv', hp⟩
  | ok v t rest =>
    rw [ho] at hq
    obtain ⟨rfl, wv', tv', M', htv, hm⟩ := hq
    simp [lb', -load_ptr]
    refine after_call (next_ev M' wShut) ?_
    rintro r g2 hn
    rcases hn with ⟨q, wv2, rfl, rfl, M2, u2⟩ | ⟨hno, rfl, rfl⟩
    · simp
      have hg := hu.len
      have hg2 := u2.len
      have hpk := M'.pk
      have hkh := m.kh
      refine ⟨x, 0, rfl, hc, hone, Upd.trans hu u2 fun _ _ h => .inl h, ?_⟩
      simp only [Out.shut, if_true]
      exact ⟨trivial, wv2, tv', M2, htv, (hm.upd u2 fun j hj e => by omega).mono fun j hj => ⟨hj.1, by omega, hj.2.2⟩⟩
    · simp
      have hs : (Out.ok v t rest).shut = .bad 4 := by
        cases rest with
        | nil => rfl
        | cons w q =>
          have : w ≠ wShut := fun e => hno q (by rw [e])
          simp [Out.shut, this]
      rw [hs]
      exact ⟨x, 4, rfl, hc, hone, hu, rfl, wv', tv', M'.at_⟩
end
end Go.Proofs.Ytbamofeocfbjbaa
