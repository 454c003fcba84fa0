/- Statements, loops and calls on abstract values and blocks, and that the model's do the same; no condition. -/
import Derived.Test.YtojdhmkjegkfkaaAb8
import Derived.RangeFuncLeaves
namespace Go.Ab
open Go.RowKit
section
variable {P : Program} {μ : Emb} {h : Hp} {w : World} {n : Nat}

/-- what a call comes to: Q of its result and of the blocks behind it -/
def EvA (P : Program) (f : FuncId) (args : List Value) (Q : Value → Hp → Prop) (h : Hp) : Prop :=
  callable P f = true ∧ ∀ (μ : Emb) (w : World) (vs : Array Value), HRel μ h w → LRel μ args vs.toList →
    Calls P f vs w fun e w' => ∃ μ' h' r v, e = .returned v ∧ Step μ h w μ' h' w' ∧ VRel μ' r v ∧ Q r h'
theorem EvA.mono {f : FuncId} {args : List Value} {Q Q' : Value → Hp → Prop} (he : EvA P f args Q h) (hq : ∀ r h', Q r h' → Q' r h') : EvA P f args Q' h :=
  ⟨he.1, fun μ w vs hr hv => (he.2 μ w vs hr hv).mono fun _ _ ⟨μ', h', r, v, e1, e2, e3, e4⟩ => ⟨μ', h', r, v, e1, e2, e3, hq _ _ e4⟩⟩

abbrev QA := Exit → Fr → Hp → Prop
/-- the fence of a walk: no bound; in a round of a loop over a function, or not -/
def Wd (r : Option Nat) : Fence := { Fence.wide with round := r }
theorem room_wd (r : Option Nat) (k : Nat) : (Wd r).room k := room_wide k
theorem callsIn_wd {r : Option Nat} {k : Nat} {f : FuncId} {args : Array Value} {R : Ending → World → Prop} : CallsIn (Wd r) k P f args w R ↔ Calls P f args w R := callsIn_wide (n := k)
/-- is there a loop over a function in it? -/
def hasRF : Code → Bool
  | .seq a b | .cond _ a b => hasRF a || hasRF b
  | .block _ c | .loop c | .scope c => hasRF c
  | .rangeFunc .. => true
  | _ => false
/-- the marks that loops over functions leave: blocks from m on that are nobody's -/
def coll (D : Nat) : Deferred := { target := .collected D, args := #[] }
def DOk (m : Nat) (ds : List Deferred) (μ : Emb) (h : Hp) (w : World) : Prop :=
  m ≤ w.heap.size ∧ ∃ Ds : List Nat, ds = Ds.map coll ∧ Ds.Nodup ∧ ∀ D ∈ Ds, m ≤ D ∧ D < w.heap.size ∧ ¬ Own μ h D ∧ w.heap[D]? = some (.deferred (some []))
theorem DOk.step {m : Nat} {ds : List Deferred} {μ' : Emb} {h' : Hp} {w' : World} (hd : DOk m ds μ h w) (s : Step μ h w μ' h' w') : DOk m ds μ' h' w' := by
  obtain ⟨hm, Ds, rfl, h2, h3⟩ := hd
  refine ⟨Nat.le_trans hm s.keeps.size, Ds, rfl, h2, fun D hD => ?_⟩
  obtain ⟨g0, g1, g2, g3⟩ := h3 D hD
  refine ⟨g0, Nat.lt_of_lt_of_le g1 s.keeps.size, fun ho => ?_, (s.keeps.block D g1 g2).trans g3⟩
  rcases s.own D ho with h' | h'
  · exact g2 h'
  · omega
def CPost (n m : Nat) (μ : Emb) (h : Hp) (w : World) (Q : QA) (e : Exit) (a' : Act) (w' : World) : Prop :=
  ∃ μ' fr' h', Step μ h w μ' h' w' ∧ FRel μ' n fr' a'.tmps ∧ DOk m a'.defers μ' h' w' ∧ Q e fr' h'
/-- what a statement comes to -/
def WpA (P : Program) (n : Nat) (c : Code) (Q : QA) (fr : Fr) (h : Hp) : Prop :=
  ∀ (r : Option Nat) (m : Nat) (μ : Emb) (w : World) (a : Act), (hasRF c = true → r = none) → HRel μ h w → FRel μ n fr a.tmps → DOk m a.defers μ h w → c.wpIn (Wd r) 0 P (CPost n m μ h w Q) a w

theorem CPost.step {m : Nat} {μ' : Emb} {h' : Hp} {w' : World} {Q : QA} {e : Exit} {a : Act} {w'' : World} (s : Step μ h w μ' h' w') (hc : CPost n m μ' h' w' Q e a w'') : CPost n m μ h w Q e a w'' := by
  obtain ⟨μ'', fr, h'', s2, r⟩ := hc
  exact ⟨μ'', fr, h'', s.trans s2, r⟩
theorem WpA.mono {c : Code} {Q Q' : QA} {fr : Fr} (hw : WpA P n c Q fr h) (hq : ∀ e fr h, Q e fr h → Q' e fr h) : WpA P n c Q' fr h := by
  intro r m μ w a hg hr hf hd
  refine wpIn_mono (hw r m μ w a hg hr hf hd) ?_
  rintro e a' w' ⟨μ', fr', h', s, r1, r2, r3⟩
  exact ⟨μ', fr', h', s, r1, r2, hq _ _ _ r3⟩

/-! ### one statement's operations -/
def putF (n : Nat) (fr : Fr) (d : Option Tmp) (v : Value) : Fr :=
  match d with
  | some d => fun i => if i = d then (if d < n then v else any) else fr i
  | none => fr
def wantA (ops : Array Oper) (o : Oper) (fr : Fr) : Option Bool :=
  match o.guard with
  | none => some true
  | some (j, want) =>
    match (ops[j]?).bind (·.dst) with
    | none => some false
    | some d =>
      match fr d with
      | .bool b => some (b == want)
      | .float .f32 0 => some false
      | _ => none
/-- the frame of a round -/
def putPs (L : LoopA) (args : List Value) : Fr := (L.ps.toList.zip args).foldl (fun fr p => putF L.n fr (some p.1) p.2) L.fr
def busyL (L : LoopA) : LoopA := { L with st := .busy }
def doneL (L : LoopA) (c : Code) : LoopA := { L with st := .done, pend := some c }
def readyL (L : LoopA) : LoopA := { L with st := .ready, pend := none }
/-- where a round ends, and what follows in the function that called for it -/
def endQ (b : Nat) (K : Value → Hp → Prop) : QA := fun e _ h => ∃ L, h[b]? = some (.loop L) ∧ (match e with
  | .normal => K (.bool true) (h.set b (.loop (readyL L)))
  | .ret => K (.bool false) (h.set b (.loop (doneL L .ret)))
  | .exit id => K (.bool false) (h.set b (.loop (doneL L (.exit id))))
  | _ => False)
/-- behind the assignment of a round -/
def startQ (P : Program) (b n : Nat) (body : Code) (K : Value → Hp → Prop) : QA := fun e fr h => e = .normal ∧ ∃ L, h[b]? = some (.loop L) ∧ L.st = .ready ∧ WpA P n body (endQ b K) fr (h.set b (.loop (busyL L)))
/-- a round of a loop over a function -/
def RoundA (P : Program) (b : Nat) (args : List Value) (K : Value → Hp → Prop) (h : Hp) : Prop :=
  ∃ L, h[b]? = some (.loop L) ∧ args.length = L.ps.size ∧ hasRF L.assign = false ∧ hasRF L.body = false ∧ WpA P L.n L.assign (startQ P b L.n L.body K) (putPs L args) h
theorem RoundA.mono {b : Nat} {args : List Value} {K K' : Value → Hp → Prop} (hA : RoundA P b args K h) (hk : ∀ r h', K r h' → K' r h') : RoundA P b args K' h := by
  obtain ⟨L, h1, h3, h4, h5, h6⟩ := hA
  refine ⟨L, h1, h3, h4, h5, h6.mono ?_⟩
  rintro e fr g ⟨rfl, L1, g0, g1, g2⟩
  refine ⟨rfl, L1, g0, g1, g2.mono ?_⟩
  rintro e fr g ⟨L2, g3, g4⟩
  refine ⟨L2, g3, ?_⟩
  cases e with
  | normal => exact hk _ _ g4
  | ret => exact hk _ _ g4
  | exit id => exact hk _ _ g4
  | goto l => exact g4
  | panic c => exact g4
  | outgrown => exact g4
def runOps (P : Program) (n : Nat) (ops : Array Oper) (K : Fr → Hp → Prop) : List Oper → Fr → Hp → Prop
  | [], fr, h => K fr h
  | o :: rest, fr, h =>
    match wantA ops o fr with
    | none => False
    | some t =>
      (t = true → match opA P (evalA fr) o.op h with
      | none => False
      | some (.val v h') => runOps P n ops K rest (putF n fr o.dst v) h'
      | some (.enter f args) => EvA P f args (fun r h' => runOps P n ops K rest (putF n fr o.dst r) h') h
      | some (.round b args) => RoundA P b args (fun r h' => runOps P n ops K rest (putF n fr o.dst r) h') h) ∧
      (t = false → runOps P n ops K rest (putF n fr o.dst sk) h)

theorem FRel.put {fr : Fr} {a : Act} (hf : FRel μ n fr a.tmps) (d : Option Tmp) {v v' : Value} (hv : VRel μ v v') : FRel μ n (putF n fr d v) (a.put d v').tmps := by
  cases d with
  | none => exact hf
  | some d =>
    refine ⟨by simpa [Act.put] using hf.1, fun i => ?_⟩
    simp only [putF, Act.put]
    by_cases hi : i = d
    · subst hi
      rw [if_pos rfl]
      split
      · rename_i hlt
        rw [← hf.1] at hlt
        simpa [Array.getD_eq_getD_getElem?, hlt] using hv
      · exact .any _
    · rw [if_neg hi]
      have := hf.2 i
      rw [Array.getD_eq_getD_getElem?] at this ⊢
      rw [Array.getElem?_setIfInBounds_ne (fun h => hi h.symm)]
      exact this
theorem put_defers (a : Act) (d : Option Tmp) (v : Value) : (a.put d v).defers = a.defers := by cases d <;> rfl
theorem wantA_ok {ops : Array Oper} {o : Oper} {fr : Fr} {a : Act} (hf : FRel μ n fr a.tmps) {b : Bool} (hw : wantA ops o fr = some b) : Region.wanted o (yielded ops a.tmps) = b := by
  unfold wantA at hw
  unfold Region.wanted
  split at hw
  · rename_i hg; simp at hw; subst hw; rw [hg]
  · rename_i j want hg
    rw [hg]
    simp only [yielded]
    split at hw
    · rename_i hn; simp at hw; subst hw; rw [hn]; simp
    · rename_i d hd
      rw [hd]
      simp only [Option.bind_some]
      have hv := hf.2 d
      rw [Array.getD_eq_getD_getElem?] at hv
      split at hw
      · rename_i c hc
        rw [hc] at hv
        simp at hw; subst hw
        cases hy : a.tmps[d]? with
        | none => rw [hy] at hv; simp only [Option.getD_none] at hv; cases hv
        | some y =>
          rw [hy] at hv
          simp only [Option.getD_some] at hv
          cases hv
          cases c <;> cases want <;> rfl
      · rename_i hc
        rw [hc] at hv
        simp at hw; subst hw
        cases hy : a.tmps[d]? with
        | none => rfl
        | some y =>
          rw [hy] at hv
          simp only [Option.getD_some] at hv
          cases hv
          rfl
      · simp at hw

def NQ (K : Fr → Hp → Prop) : QA := fun e fr h => match e with
  | .normal => K fr h
  | _ => False
theorem set_same' {b : Nat} {B : Blk} (hB : h[b]? = some B) : h.set b B = h := set_same hB
theorem zip_fold {L : LoopA} : ∀ (ps : List Tmp) (args vs : List Value) (fr : Fr) (tmps : Array Value), FRel μ L.n fr tmps → LRel μ args vs →
    FRel μ L.n ((ps.zip args).foldl (fun fr p => putF L.n fr (some p.1) p.2) fr) ((ps.zip vs).foldl (fun tmps p => tmps.setIfInBounds p.1 p.2) tmps) := by
  intro ps
  induction ps with
  | nil => intro args vs fr tmps hf _; simpa using hf
  | cons p ps ih =>
    intro args vs fr tmps hf hv
    cases args with
    | nil => rw [LRel.nil_inv hv]; simpa using hf
    | cons x args =>
      obtain ⟨y, ys, rfl, h1, h2⟩ := LRel.cons_inv hv
      simp only [List.zip_cons_cons, List.foldl_cons]
      exact ih args ys _ _ (hf.put (a := { tmps := tmps, defers := [] }) (some p) h1) h2
theorem HRel.loop (hr : HRel μ h w) {b : Nat} {e : Place} {L : LoopA} (hb : μ b = some e) (hB : h[b]? = some (.loop L)) :
    ∃ r : Loop, w.heap[e.block]? = some (.loop r) ∧ r.state = L.st ∧ r.pending = L.pend ∧ r.params = L.ps ∧ r.assign = L.assign ∧ r.body = L.body ∧ FRel μ L.n L.fr r.tmps := by
  obtain ⟨_, r, h2, h3, h4, h5, h6, h7, h8, h9⟩ := hr.obj b e _ hb hB
  exact ⟨r, h2, h3, h4, h5, h6, h7, h8, h9⟩
theorem Step.setLoop (hr : HRel μ h w) {b : Nat} {e : Place} {L : LoopA} {r : Loop} (hb : μ b = some e) (hB : h[b]? = some (.loop L)) (hl : w.heap[e.block]? = some (.loop r)) (st : LoopState) (pend : Option Code) :
    Step μ h w μ (h.set b (.loop { L with st := st, pend := pend })) (w.putObj e.block (.loop { r with state := st, pending := pend })) := by
  obtain ⟨h1, r', h2, h3, h4, h5, h6, h7, h8, h9⟩ := hr.obj b e _ hb hB
  rw [hl] at h2
  simp at h2; subst h2
  have hlt := (hr.dom b e hb).2
  refine Step.write hr hb hB rfl _ (fun _ => rfl) rfl rfl rfl (by simp) (fun k hk => World.putObj_heap_other hk) ⟨h1, _, World.putObj_heap_same hlt, rfl, rfl, h5, h6, h7, h8, h9⟩
theorem DOk.nil (μ : Emb) (h : Hp) (w : World) : DOk 0 [] μ h w := ⟨Nat.zero_le _, [], rfl, by simp, by simp⟩
theorem RoundA.ok {b : Nat} {args : List Value} {K : Value → Hp → Prop} {e : Place} {vs : Array Value} (r0 : Option Nat) (hr : HRel μ h w) (hA : RoundA P b args K h) (hb : μ b = some e) (hv : LRel μ args vs.toList) :
    ∃ r : Loop, w.heap[e.block]? = some (.loop r) ∧ vs.size = r.params.size ∧
      RoundIn (Wd r0) 0 P e.block r.fn ((r.params.zip vs).foldl (fun tmps (t, a) => tmps.setIfInBounds t a) r.tmps) r.assign r.body w
        (fun en w' => ∃ μ' h' r' v, en = .returned v ∧ Step μ h w μ' h' w' ∧ VRel μ' r' v ∧ K r' h') := by
  obtain ⟨L, hB, hlen, hrf1, hrf2, hw⟩ := hA
  obtain ⟨r, q1, q2, q3, q4, q5, q6, q7⟩ := hr.loop hb hB
  have hsz : vs.size = r.params.size := by have := hv.1; simp at this; rw [q4]; omega
  refine ⟨r, q1, hsz, ?_⟩
  have hfr : FRel μ L.n (putPs L args) ((r.params.zip vs).foldl (fun tmps (t, a) => tmps.setIfInBounds t a) r.tmps) := by
    have := zip_fold (μ := μ) (L := L) r.params.toList args vs.toList L.fr r.tmps q7 hv
    rw [← Array.foldl_toList, Array.toList_zip]
    rw [q4] at this ⊢
    exact this
  refine roundIn_of_wpIn (F := Wd r0) trivial ?_
  have hF : (Wd r0).inRound e.block = Wd (some e.block) := rfl
  rw [hF, q5, q6]
  refine wpIn_mono (hw (some e.block) 0 μ w { tmps := _, defers := [] } (by rw [hrf1]; simp) hr hfr (DOk.nil _ _ _)) ?_
  rintro en a1 w1 ⟨μ1, fr1, h1, s1, f1, d1, rfl, L1, hB1, hst, hw1⟩
  have hb1 : μ1 b = some e := s1.up hr b e hb
  obtain ⟨r1, p1, p2, p3, p4, p5, p6, p7⟩ := s1.rel.loop hb1 hB1
  have s2 := Step.setLoop s1.rel hb1 hB1 p1 .busy L1.pend
  have hp3 : { r1 with state := .busy, pending := L1.pend } = { r1 with state := .busy } := by rw [← p3]
  rw [hp3] at s2
  refine ⟨_, run_beginRound p1 (by rw [p2]; exact hst), ?_⟩
  refine wpIn_mono (hw1 (some e.block) 0 μ1 _ a1 (by rw [hrf2]; simp) s2.rel f1 (d1.step s2)) ?_
  have hfin : ∀ (en : Option Code) (μ3 : Emb) (h3 : Hp) (w3 : World) (L2 : LoopA), Step μ1 (h1.set b (.loop (busyL L1))) (w1.putObj e.block (.loop { r1 with state := .busy })) μ3 h3 w3 → h3[b]? = some (.loop L2) →
      K (.bool en.isNone) (h3.set b (.loop { L2 with st := if en.isNone then .ready else .done, pend := en })) →
      ∃ v w', (Instr.endRound e.block en).run P w3 = .ok v w' ∧ ∃ μ' h' r' v', Ending.returned v = .returned v' ∧ Step μ h w μ' h' w' ∧ VRel μ' r' v' ∧ K r' h' := by
    intro en μ3 h3 w3 L2 s3 hB3 hK
    have hb3 : μ3 b = some e := s3.up s2.rel b e hb1
    obtain ⟨r3, t1, _⟩ := s3.rel.loop hb3 hB3
    have s4 := Step.setLoop s3.rel hb3 hB3 t1 (if en.isNone then .ready else .done) en
    exact ⟨_, _, run_endRound en t1, μ3, _, .bool en.isNone, _, rfl, ((s1.trans s2).trans s3).trans s4, .bool _, hK⟩
  rintro en a3 w3 ⟨μ3, fr3, h3, s3, f3, d3, L2, hB3, hK⟩
  cases en with
  | normal => exact hfin none μ3 h3 w3 L2 s3 hB3 hK
  | ret => exact hfin (some .ret) μ3 h3 w3 L2 s3 hB3 hK
  | exit id => exact hfin (some (.exit id)) μ3 h3 w3 L2 s3 hB3 hK
  | goto l => exact hK.elim
  | panic c => exact hK.elim
  | outgrown => exact hK.elim
theorem wpOper {r0 : Option Nat} {a : Act} {o : Oper} {K : Act → World → Prop} {Q : Exit → Act → World → Prop} (hd : ∀ c, o.op ≠ .defer c) (hu : o.uponIn (Wd r0) 0 P a K Q ((execOp a.eval o).run P w)) : o.wpIn (Wd r0) 0 P a w K Q :=
  ⟨fun _ _ => trivial, by rw [Oper.semAt_eq _ _ _ hd]; exact hu⟩
theorem upon_value {r0 : Option Nat} {a : Act} {o : Oper} {K : Act → World → Prop} {Q : Exit → Act → World → Prop} {v' : Value} {w' : World} {s : Sem Next}
    (e1 : s.run P w = .ok (.value v') w' ∨ (s.run P w = .ok .skip w' ∧ v' = undef)) (hk : K (a.put o.dst v') w') : o.uponIn (Wd r0) 0 P a K Q (s.run P w) := by
  rcases e1 with e1 | ⟨e1, rfl⟩
  · rw [e1]; exact hk
  · rw [e1]; exact hk
theorem upon_enter {r0 : Option Nat} {a : Act} {o : Oper} {K : Act → World → Prop} {Q : Exit → Act → World → Prop} {f : FuncId} {vs : Array Value} {s : Sem Next} {R : Ending → World → Prop}
    (e1 : s.run P w = .ok (.enter f vs) w) (hc : Calls P f vs w R) (hk : ∀ e w', R e w' → ∃ v, e = .returned v ∧ K (a.put o.dst v) w') : o.uponIn (Wd r0) 0 P a K Q (s.run P w) := by
  rw [e1, Oper.uponIn_enter]
  refine ⟨fun h => by simp [Wd, Fence.wide] at h, callsIn_wd.2 (hc.mono ?_)⟩
  intro e w' hR
  obtain ⟨v, rfl, hk'⟩ := hk e w' hR
  exact hk'
theorem upon_round {r0 : Option Nat} {a : Act} {o : Oper} {K : Act → World → Prop} {Q : Exit → Act → World → Prop} {l : Nat} {f : FuncId} {tmps : Array Value} {as bd : Code} {s : Sem Next} {R : Ending → World → Prop}
    (e1 : s.run P w = .ok (.round l f tmps as bd) w) (hc : RoundIn (Wd r0) 0 P l f tmps as bd w R) (hk : ∀ e w', R e w' → ∃ v, e = .returned v ∧ K (a.put o.dst v) w') : o.uponIn (Wd r0) 0 P a K Q (s.run P w) := by
  rw [e1, Oper.uponIn_round]
  refine ⟨fun h => by simp [Wd, Fence.wide] at h, hc.mono ?_⟩
  intro e w' hR
  obtain ⟨v, rfl, hk'⟩ := hk e w' hR
  exact hk'
theorem runOps_ok {m : Nat} {r0 : Option Nat} {ds : List Deferred} {ops : Array Oper} {K : Fr → Hp → Prop} {μ₀ : Emb} {h₀ : Hp} {w₀ : World} (hds : DOk m ds μ₀ h₀ w₀) : ∀ (l : List Oper) (fr : Fr) (h : Hp), runOps P n ops K l fr h →
    ∀ (μ : Emb) (w : World) (a : Act), Step μ₀ h₀ w₀ μ h w → FRel μ n fr a.tmps → a.defers = ds → wpListIn (Wd r0) 0 P ops (CPost n m μ₀ h₀ w₀ (NQ K)) l a w := by
  intro l
  induction l with
  | nil =>
    intro fr h hk μ w a hs hf hd
    exact ⟨μ, fr, h, hs, hf, by rw [hd]; exact hds.step hs, hk⟩
  | cons o rest ih =>
    intro fr h hk μ w a hs hf hd
    have hr := hs.rel
    simp only [runOps] at hk
    unfold wpListIn
    split at hk
    · exact hk.elim
    rename_i t hw
    cases t
    · rw [if_neg (by rw [wantA_ok hf hw]; simp)]
      exact ⟨fun _ _ => trivial, ih _ _ (hk.2 rfl) μ w _ hs (hf.put _ .sk) (by rw [put_defers]; exact hd)⟩
    · replace hk := hk.1 rfl
      rw [if_pos (wantA_ok hf hw)]
      split at hk
      · exact hk.elim
      · rename_i v h' hop
        obtain ⟨μ', v', w', e1, e2, e3⟩ := opA_ok (P := P) hr hf (o := o) hop
        exact wpOper (opA_defer hop) (upon_value e1 (ih _ _ hk μ' w' (a.put o.dst v') (hs.trans e3) ((hf.mono (e3.up hr)).put _ e2) (by rw [put_defers]; exact hd)))
      · rename_i f args hop
        obtain ⟨vs, e1, e2⟩ := opA_ok (P := P) hr hf (o := o) hop hk.1
        refine wpOper (opA_defer hop) (upon_enter e1 (hk.2 μ w vs hr e2) ?_)
        rintro e w' ⟨μ', h', r, v, rfl, s, hv, hq⟩
        exact ⟨v, rfl, ih _ _ hq μ' w' (a.put o.dst v) (hs.trans s) ((hf.mono (s.up hr)).put _ hv) (by rw [put_defers]; exact hd)⟩
      · rename_i b args hop
        obtain ⟨e, vs, e1, e2, e3⟩ := opA_ok (P := P) hr hf (o := o) hop
        obtain ⟨r, g1, g2, g3⟩ := RoundA.ok r0 hr hk e1 e2
        refine wpOper (opA_defer hop) (upon_round (e3 r g1 g2) g3 ?_)
        rintro e w' ⟨μ', h', r, v, rfl, s, hv, hq⟩
        exact ⟨v, rfl, ih _ _ hq μ' w' (a.put o.dst v) (hs.trans s) ((hf.mono (s.up hr)).put _ hv) (by rw [put_defers]; exact hd)⟩

theorem WpA.region {id : Nat} {ops : Array Oper} {K : Fr → Hp → Prop} {fr : Fr} (hk : runOps P n ops K ops.toList fr h) : WpA P n (.region id ops false) (NQ K) fr h := by
  intro r m μ w a _ hr hf hd
  exact wpIn_region_list (runOps_ok hd ops.toList fr h hk μ w a (Step.refl hr) hf rfl)

/-! ### statements -/
/-- what follows a statement that ends normally -/
def thenQ (P : Program) (n : Nat) (y : Code) (Q : QA) : QA := fun e fr h => match e with
  | .normal => WpA P n y Q fr h
  | e => Q e fr h
theorem WpA.seq {x y : Code} {Q : QA} {fr : Fr} (hw : WpA P n x (thenQ P n y Q) fr h) : WpA P n (.seq x y) Q fr h := by
  intro r m μ w a hg hr hf hd
  refine wpIn_seq (wpIn_mono (hw r m μ w a (fun h => hg (by simp [hasRF, h])) hr hf hd) ?_)
  rintro e a' w' ⟨μ', fr', h', s, r1, r2, r3⟩
  cases e with
  | normal =>
    refine wpIn_mono (r3 r m μ' w' a' (fun h => hg (by simp [hasRF, h])) s.rel r1 r2) ?_
    intro e a'' w'' hc
    exact hc.step s
  | exit id => exact ⟨μ', fr', h', s, r1, r2, r3⟩
  | goto l => exact ⟨μ', fr', h', s, r1, r2, r3⟩
  | ret => exact ⟨μ', fr', h', s, r1, r2, r3⟩
  | panic c => exact ⟨μ', fr', h', s, r1, r2, r3⟩
  | outgrown => exact ⟨μ', fr', h', s, r1, r2, r3⟩
theorem WpA.skip {Q : QA} {fr : Fr} (hq : Q .normal fr h) : WpA P n .skip Q fr h :=
  fun _ _ μ _ _ _ hr hf hd => wpIn_skip ⟨μ, fr, h, Step.refl hr, hf, hd, hq⟩
theorem WpA.ret {Q : QA} {fr : Fr} (hq : Q .ret fr h) : WpA P n .ret Q fr h :=
  fun _ _ μ _ _ _ hr hf hd => wpIn_ret ⟨μ, fr, h, Step.refl hr, hf, hd, hq⟩
theorem WpA.exit {id : Nat} {Q : QA} {fr : Fr} (hq : Q (.exit id) fr h) : WpA P n (.exit id) Q fr h :=
  fun _ _ μ _ _ _ hr hf hd => wpIn_exit ⟨μ, fr, h, Step.refl hr, hf, hd, hq⟩
theorem WpA.label {l : Nat} {Q : QA} {fr : Fr} (hq : Q .normal fr h) : WpA P n (.label l) Q fr h :=
  fun _ _ μ _ _ _ hr hf hd => wpIn_label ⟨μ, fr, h, Step.refl hr, hf, hd, hq⟩
theorem WpA.cond {c : Operand} {x y : Code} {Q : QA} {fr : Fr} {b : Bool} (hc : evalA fr c = .bool b) (hw : WpA P n (if b then x else y) Q fr h) : WpA P n (.cond c x y) Q fr h := by
  intro r m μ w a hg hr hf hd
  have hv := VRel.eval hf c
  rw [hc] at hv
  generalize hcv : a.eval c = cv at hv
  cases hv
  refine wpIn_cond hcv (hw r m μ w a (fun h => hg ?_) hr hf hd)
  simp only [hasRF]
  cases b <;> simp_all
def blockQ (id : Nat) (Q : QA) : QA := fun e fr h => match e with
  | .exit id' => if id' = id then Q .normal fr h else Q (.exit id') fr h
  | e => Q e fr h
theorem WpA.block {id : Nat} {c : Code} {Q : QA} {fr : Fr} (hw : WpA P n c (blockQ id Q) fr h) : WpA P n (.block id c) Q fr h := by
  intro r m μ w a hg hr hf hd
  refine wpIn_block (wpIn_mono (hw r m μ w a (fun h => hg (by simp [hasRF, h])) hr hf hd) ?_)
  rintro e a' w' ⟨μ', fr', h', s, r1, r2, r3⟩
  cases e with
  | exit id' =>
    simp only [blockQ] at r3
    simp only [Exit.inBlock]
    split
    · rename_i hid; rw [if_pos hid] at r3; exact ⟨μ', fr', h', s, r1, r2, r3⟩
    · rename_i hid; rw [if_neg hid] at r3; exact ⟨μ', fr', h', s, r1, r2, r3⟩
  | normal => exact ⟨μ', fr', h', s, r1, r2, r3⟩
  | goto l => exact ⟨μ', fr', h', s, r1, r2, r3⟩
  | ret => exact ⟨μ', fr', h', s, r1, r2, r3⟩
  | panic c => exact ⟨μ', fr', h', s, r1, r2, r3⟩
  | outgrown => exact ⟨μ', fr', h', s, r1, r2, r3⟩

/-- a loop, so many rounds at most -/
def roundsA (P : Program) (n : Nat) (c : Code) (Q : QA) : Nat → Fr → Hp → Prop
  | 0, _, _ => False
  | k + 1, fr, h => WpA P n c (fun e fr h => match e with
    | .normal => roundsA P n c Q k fr h
    | e => Q e fr h) fr h
theorem roundsA_ok {m : Nat} {r : Option Nat} {c : Code} (hg : hasRF c = true → r = none) {Q : QA} {μ₀ : Emb} {h₀ : Hp} {w₀ : World} : ∀ (k : Nat) (fr : Fr) (h : Hp), roundsA P n c Q k fr h →
    ∀ (μ : Emb) (w : World) (a : Act), Step μ₀ h₀ w₀ μ h w → FRel μ n fr a.tmps → DOk m a.defers μ h w → Code.roundsIn (Wd r) 0 P c (CPost n m μ₀ h₀ w₀ Q) k a w := by
  intro k
  induction k with
  | zero => intro fr h hk; exact hk.elim
  | succ k ih =>
    intro fr h hk μ w a hs hf hd
    rw [roundsIn_succ]
    refine wpIn_mono (hk r m μ w a hg hs.rel hf hd) ?_
    rintro e a' w' ⟨μ', fr', h', s, r1, r2, r3⟩
    cases e with
    | normal => exact ih _ _ r3 μ' w' a' (hs.trans s) r1 r2
    | exit id => exact ⟨μ', fr', h', hs.trans s, r1, r2, r3⟩
    | goto l => exact ⟨μ', fr', h', hs.trans s, r1, r2, r3⟩
    | ret => exact ⟨μ', fr', h', hs.trans s, r1, r2, r3⟩
    | panic c => exact ⟨μ', fr', h', hs.trans s, r1, r2, r3⟩
    | outgrown => exact ⟨μ', fr', h', hs.trans s, r1, r2, r3⟩
theorem WpA.rounds {c : Code} {Q : QA} {fr : Fr} (k : Nat) (hk : roundsA P n c Q k fr h) : WpA P n (.loop c) Q fr h :=
  fun _ _ μ w a hg hr hf hd => wpIn_loop_rounds k (roundsA_ok (c := c) (fun h => hg (by simpa [hasRF] using h)) k fr h hk μ w a (Step.refl hr) hf hd)
/-- behind a loop over a function: the jump that a round has left -/
def leftQ (b : Nat) (Q : QA) (fr : Fr) (h : Hp) : Prop := ∃ L, h[b]? = some (.loop L) ∧ L.st ≠ .busy ∧ (match L.pend with
  | none => Q .normal fr (h.set b .dead)
  | some .ret => Q .ret fr (h.set b .dead)
  | some (.exit id) => Q (.exit id) fr (h.set b .dead)
  | _ => False)
theorem Step.alloc' (hr : HRel μ h w) (o : Obj) : Step μ h w μ h (w.alloc o) := by
  have hb : ∀ k, k < w.heap.size → (w.alloc o).heap[k]? = w.heap[k]? := fun k hk => Below.heap_alloc w o k hk
  exact ⟨fun _ _ => rfl, Nat.le_refl _, hr.world (by simp) (fun b e B he _ _ => hb _ (hr.dom b e he).2), ⟨rfl, rfl, rfl, by simp, fun k hk _ => hb k hk⟩, fun _ h => .inl h⟩
/-- **A loop over a function.** -/
theorem WpA.rangeFunc {g : Operand} {ps : Array Tmp} {assign body : Code} {Q : QA} {fr : Fr} {gf : FuncId} {first cap : Array Value} (hg : evalA fr g = .func (.func gf) first cap)
    (hk : ∀ L : LoopA, L.st = .ready → L.pend = none → L.n = n → L.fr = fr → L.ps = ps → L.assign = assign → L.body = body →
      EvA P gf (first.toList ++ [Value.func (.yield h.length) #[] #[]] ++ cap.toList) (fun _ h' => leftQ h.length Q fr h') (h ++ [.loop L])) : WpA P n (.rangeFunc g ps assign body) Q fr h := by
  intro r m μ w a hrf hr hf hd
  have hrn : r = none := hrf rfl
  subst hrn
  have hgv := VRel.eval hf g
  rw [hg] at hgv
  generalize hgv' : a.eval g = gv at hgv
  cases hgv with
  | func e1 e2 e3 e4 =>
  rename_i first' cap'
  refine wpIn_rangeFunc (F := Wd none) ?_
  intro fn _
  let L : LoopA := { st := .ready, pend := none, n := n, fr := fr, ps := ps, assign := assign, body := body }
  let r1 : Loop := { state := .ready, pending := none, fn, tmps := a.tmps, params := ps, assign, body, defers := w.heap.size }
  have s0 := Step.alloc' hr (.deferred (some []))
  have s1 := Step.new s0.rel (.loop r1) (.loop L) ⟨(w.alloc (.deferred (some []))).heap.size, 0, 0, 0⟩ rfl
    ⟨rfl, r1, World.alloc_heap_new _ _, rfl, rfl, rfl, rfl, rfl, hf.1, fun i => (hf.2 i).mono (Emb.put_old s0.rel _)⟩
  have s01 := s0.trans s1
  have hsz : (w.alloc (.deferred (some []))).heap.size = w.heap.size + 1 := by simp
  have hyv : VRel (μ.put h.length ⟨(w.alloc (.deferred (some []))).heap.size, 0, 0, 0⟩) (Value.func (.yield h.length) #[] #[]) (Value.func (.yield (w.heap.size + 1)) #[] #[]) := by
    have := VRel.yield (μ := μ.put h.length ⟨(w.alloc (.deferred (some []))).heap.size, 0, 0, 0⟩) (Emb.put_new μ h.length _)
    rw [hsz] at this ⊢
    exact this
  have hup := s01.up hr
  have hcall := hk L rfl rfl rfl rfl rfl rfl rfl
  have hargs : LRel (μ.put h.length ⟨(w.alloc (.deferred (some []))).heap.size, 0, 0, 0⟩) (first.toList ++ [Value.func (.yield h.length) #[] #[]] ++ cap.toList) (first' ++ #[Value.func (.yield (w.heap.size + 1)) #[] #[]] ++ cap').toList := by
    have g1 : ARel μ first first' := ARel.of e1 e3
    have g2 : ARel μ cap cap' := ARel.of e2 e4
    have := LRel.append (LRel.append (LRel.mono hup g1) (LRel.cons hyv LRel.nil)) (LRel.mono hup g2)
    simpa using this
  have hc := hcall.1
  unfold callable at hc
  split at hc
  case h_2 => simp at hc
  rename_i fn' hfn
  simp at hc
  obtain ⟨c1, c2⟩ := hc
  obtain ⟨bd, hbd⟩ := Option.isSome_iff_exists.1 c2
  let W1 : World := (w.alloc (.deferred (some []))).alloc (.loop r1)
  refine ⟨w.heap.size + 1, [coll w.heap.size], W1, ({ target := .fn (.func gf) cap', args := first' ++ #[Value.func (.yield (w.heap.size + 1)) #[] #[]] } : Deferred), W1, gf, first' ++ #[Value.func (.yield (w.heap.size + 1)) #[] #[]] ++ cap', W1, run_enterLoop_outer fn a.tmps ps assign body, ?_, fun _ _ => (trivial : (Wd none).fn _), ?_, ?_, ?_⟩
  · simp [resolve, rangeCall, hgv', Deferred.ofValue]; rfl
  · simp [invoke, callFunc, hfn, c1, hbd]
  · intro h; simp [Wd, Fence.wide] at h
  · refine callsIn_wd.2 ((hcall.2 _ _ _ s01.rel hargs).mono ?_)
    rintro e w3 ⟨μ3, h3, r3, v3, rfl, s3, _, L3, hB3, hb3, hq⟩
    have hl3 : μ3 h.length = some ⟨(w.alloc (.deferred (some []))).heap.size, 0, 0, 0⟩ := s3.up s01.rel _ _ (Emb.put_new _ _ _)
    obtain ⟨r4, p1, p2, p3, p4, p5, p6, p7⟩ := s3.rel.loop hl3 hB3
    simp only [hsz] at p1
    have hend := run_endLoop (P := P) p1 (by rw [p2]; exact hb3)
    have hlt : w.heap.size + 1 < w3.heap.size := by have := (s3.rel.dom _ _ hl3).2; simpa [hsz] using this
    have s4 : Step μ3 h3 w3 μ3 (h3.set h.length .dead) (w3.putObj (w.heap.size + 1) (.loop { r4 with state := .exhausted })) := by
      refine Step.write s3.rel hl3 hB3 rfl .dead (fun h => by simp [Blk.live] at h) rfl rfl rfl (by simp) (fun k hk => World.putObj_heap_other (by simpa [hsz] using hk)) trivial
    have sall := (s01.trans s3).trans s4
    have hds : DOk m ([coll w.heap.size] ++ a.defers) μ3 (h3.set h.length .dead) (w3.putObj (w.heap.size + 1) (.loop { r4 with state := .exhausted })) := by
      obtain ⟨_, Ds', he', hnd', hall'⟩ := DOk.step hd sall
      obtain ⟨hm', Ds, he, hnd, hall⟩ := hd
      have hDs : Ds' = Ds := by
        have := he'.symm.trans he
        exact List.map_inj_right (fun x y hxy => by simp [coll] at hxy; exact hxy) |>.1 this
      subst hDs
      refine ⟨Nat.le_trans hm' sall.keeps.size, w.heap.size :: Ds', by rw [he]; rfl, ?_, ?_⟩
      · rw [List.nodup_cons]
        refine ⟨fun hin => ?_, hnd⟩
        have := (hall _ hin).2.1
        omega
      · intro D hD
        rcases List.mem_cons.1 hD with rfl | hD
        · have hn1 : ¬ Own (μ.put h.length ⟨(w.alloc (.deferred (some []))).heap.size, 0, 0, 0⟩) (h ++ [.loop L]) w.heap.size := by
            rintro ⟨b, e, B, g1, g2, g3, g4⟩
            by_cases hbb : b = h.length
            · subst hbb
              rw [Emb.put_new] at g1
              simp at g1; subst g1
              simp at g4
            · simp only [Emb.put, if_neg hbb] at g1
              have := (hr.dom b e g1).2
              omega
          have hk1 : ((w.alloc (.deferred (some []))).alloc (.loop r1)).heap[w.heap.size]? = some (.deferred (some [])) :=
            (Below.heap_alloc _ _ _ (by simp)).trans (World.alloc_heap_new w _)
          have s34 := s3.trans s4
          refine ⟨hm', by simp; omega, fun ho => ?_, (s34.keeps.block _ (by simp; omega) hn1).trans hk1⟩
          rcases s34.own _ ho with h' | h'
          · exact hn1 h'
          · simp at h'; omega
        · exact hall' D hD
    have hfin : ∀ e, Q e fr (h3.set h.length .dead) → CPost n m μ h w Q e { a with defers := [coll w.heap.size] ++ a.defers } (w3.putObj (w.heap.size + 1) (.loop { r4 with state := .exhausted })) :=
      fun e hq => ⟨μ3, fr, _, sall, hf.mono (sall.up hr), hds, hq⟩
    rw [← p3] at hq
    clear hds sall s4
    generalize w3.putObj (w.heap.size + 1) (.loop { r4 with state := .exhausted }) = W4 at hend hfin
    refine ⟨r4.pending, W4, hend, ?_⟩
    have hfin' := fun e hq => hfin e hq
    clear hfin hend p3
    generalize r4.pending = pe at hq
    split at hq
    · exact hfin' _ hq
    · exact wpIn_ret (hfin' _ hq)
    · exact wpIn_exit (hfin' _ hq)
    · exact hq.elim
def roundQ (I : Nat → Fr → Hp → Prop) (k : Nat) (Q : QA) : QA := fun e fr h => match e with
  | .normal => ∃ m, m < k ∧ I m fr h
  | e => Q e fr h
/-- a loop by what holds at the head of its rounds, and a number that each round lowers -/
theorem WpA.loop {c : Code} {Q : QA} (I : Nat → Fr → Hp → Prop) {k : Nat} {fr : Fr} {h : Hp} (h0 : I k fr h) (round : ∀ k fr h, I k fr h → WpA P n c (roundQ I k Q) fr h) : WpA P n (.loop c) Q fr h := by
  refine WpA.rounds (k + 1) ?_
  have key : ∀ j k, k < j → ∀ fr h, I k fr h → roundsA P n c Q j fr h := by
    intro j
    induction j with
    | zero => intro k hk; omega
    | succ j ih =>
      intro k hk fr h hI
      refine (round k fr h hI).mono ?_
      intro e fr' h' hq
      cases e with
      | normal =>
        obtain ⟨m, hm, hI'⟩ := hq
        exact ih m (by omega) fr' h' hI'
      | exit id => exact hq
      | goto l => exact hq
      | ret => exact hq
      | panic c => exact hq
      | outgrown => exact hq
  exact key (k + 1) k (by omega) fr h h0

/-- What a statement comes to, told by its text: calls and loops stay. -/
def Run (P : Program) (n : Nat) : Code → QA → Fr → Hp → Prop
  | .skip, Q, fr, h => Q .normal fr h
  | .region _ ops false, Q, fr, h => runOps P n ops (fun fr h => Q .normal fr h) ops.toList fr h
  | .seq x y, Q, fr, h => Run P n x (fun e fr h => match e with
    | .normal => Run P n y Q fr h
    | e => Q e fr h) fr h
  | .cond c x y, Q, fr, h => match evalA fr c with
    | .bool b => (b = true → Run P n x Q fr h) ∧ (b = false → Run P n y Q fr h)
    | _ => False
  | .block id c, Q, fr, h => Run P n c (fun e fr h => match e with
    | .exit id' => if id' = id then Q .normal fr h else Q (.exit id') fr h
    | e => Q e fr h) fr h
  | .ret, Q, fr, h => Q .ret fr h
  | .exit id, Q, fr, h => Q (.exit id) fr h
  | .label _, Q, fr, h => Q .normal fr h
  | c, Q, fr, h => WpA P n c Q fr h
theorem Run.ok : ∀ (c : Code) (Q : QA) (fr : Fr) (h : Hp), Run P n c Q fr h → WpA P n c Q fr h := by
  intro c
  induction c with
  | skip => intro Q fr h hk; exact WpA.skip hk
  | region id ops draw =>
    intro Q fr h hk
    cases draw with
    | true => exact hk
    | false =>
      refine (WpA.region (id := id) hk).mono ?_
      intro e fr h hq
      cases e <;> first | exact hq | exact hq.elim
  | seq x y ihx ihy =>
    intro Q fr h hk
    refine WpA.seq ((ihx _ _ _ hk).mono ?_)
    intro e fr h hq
    cases e with
    | normal => exact ihy _ _ _ hq
    | exit id => exact hq
    | goto l => exact hq
    | ret => exact hq
    | panic c => exact hq
    | outgrown => exact hq
  | cond c x y ihx ihy =>
    intro Q fr h hk
    simp only [Run] at hk
    split at hk
    · rename_i b hb
      refine WpA.cond hb ?_
      cases b
      · exact ihy _ _ _ (hk.2 rfl)
      · exact ihx _ _ _ (hk.1 rfl)
    · exact hk.elim
  | block id c ih => intro Q fr h hk; exact WpA.block (ih _ _ _ hk)
  | loop c ih => intro Q fr h hk; exact hk
  | rangeFunc f ps a b _ _ => intro Q fr h hk; exact hk
  | exit id => intro Q fr h hk; exact WpA.exit hk
  | scope c _ => intro Q fr h hk; exact hk
  | label l => intro Q fr h hk; exact WpA.label hk
  | goto l => intro Q fr h hk; exact hk
  | ret => intro Q fr h hk; exact WpA.ret hk
  | refuse why => intro Q fr h hk; exact hk

/-! ### calls -/
def resA (h : Hp) (P : Program) (fr : Fr) : ResultVar → Option Value
  | .tmp t => some (fr t)
  | .cell a t => loadA P t (fr a) h
def resultsA (P : Program) (fr : Fr) (h : Hp) : List ResultVar → Option (List Value)
  | [] => some []
  | r :: rs => match resA h P fr r, resultsA P fr h rs with
    | some v, some vs => some (v :: vs)
    | _, _ => none
def tupA : List Value → Value
  | [v] => v
  | vs => .tuple vs.toArray
/-- where a body ends, and what it answers -/
def bodyQ (P : Program) (rs : List ResultVar) (Q : Value → Hp → Prop) : QA := fun e fr h => match e with
  | .normal | .ret => match resultsA P fr h rs with
    | some vs => Q (tupA vs) h
    | none => False
  | _ => False
theorem resultsA_ok (hr : HRel μ h w) {fr : Fr} {a : Act} (hf : FRel μ n fr a.tmps) : ∀ (rs : List ResultVar) (vs : List Value), resultsA P fr h rs = some vs →
    ∃ vs', (rs.mapM (fun r => (match r with
      | .tmp t => pure (a.tmps.getD t undef)
      | .cell b t => do loadVar t (← asAddr (a.tmps.getD b undef)) : Sem Value))).run P w = .ok vs' w ∧ LRel μ vs vs' := by
  intro rs
  induction rs with
  | nil => intro vs h; simp [resultsA] at h; subst h; exact ⟨[], by simp, LRel.nil⟩
  | cons r rs ih =>
    intro vs h
    simp only [resultsA] at h
    split at h
    · rename_i v vs' hv hvs
      simp at h; subst h
      obtain ⟨ws, e1, e2⟩ := ih vs' hvs
      cases r with
      | tmp t =>
        simp [resA] at hv
        refine ⟨a.tmps.getD t undef :: ws, ?_, LRel.cons ?_ e2⟩
        · rw [List.mapM_cons]
          simp only [Sem.run_bind, Sem.run_pure, Result.andThen_ok, e1]
        · rw [← hv]; exact hf.2 t
      | cell b t =>
        simp [resA] at hv
        have hb := hf.2 b
        obtain ⟨y, y1, y2⟩ := loadA_ok (P := P) hr hb hv
        refine ⟨y :: ws, ?_, LRel.cons y2 e2⟩
        rw [List.mapM_cons]
        have hl : (do loadVar t (← asAddr (a.tmps.getD b undef)) : Sem Value).run P w = .ok y w := by
          simp only [Instr.loadAt] at y1
          unfold loadA at hv
          split at hv
          · rename_i bb oo heq
            rw [heq] at hb
            generalize hz : a.tmps.getD b undef = z at hb y1
            cases hb
            simpa [Instr.sureAddr, asAddr] using y1
          · simp at hv
        simp only [Sem.run_bind] at hl ⊢
        rw [hl]
        simp only [Result.andThen_ok, Sem.run_bind, e1, Sem.run_pure]
    · simp at h
/-- the block of a loop's deferred calls is shut -/
theorem Step.shut {μ' : Emb} {h' : Hp} {w' : World} {D : Nat} (s : Step μ h w μ' h' w') (h0 : w.heap.size ≤ D) (h1 : D < w'.heap.size) (h2 : ¬ Own μ' h' D) (h3 : w'.heap[D]? = some (.deferred (some []))) :
    Step μ h w μ' h' (w'.putObj D (.deferred none)) := by
  refine ⟨s.sub, s.len, ⟨fun b e he => ⟨(s.rel.dom b e he).1, by simpa using (s.rel.dom b e he).2⟩, ?_, s.rel.sep⟩, ⟨s.keeps.os, s.keeps.tape, s.keeps.output, by simpa using s.keeps.size, fun k hk hn => (World.putObj_heap_other (by omega)).trans (s.keeps.block k hk hn)⟩, s.own⟩
  intro b e B he hB
  have ho := s.rel.obj b e B he hB
  by_cases hD : e.block = D
  · cases B with
    | dead => trivial
    | cells cs ro op =>
      cases ro with
      | false => exact absurd ⟨b, e, _, he, hB, rfl, hD⟩ h2
      | true =>
        obtain ⟨a1, a2, a3, a4, a5⟩ := ho
        refine ⟨a1, a2, a3, fun o v hv => ?_, fun h => by simp at h⟩
        obtain ⟨v', hc, _⟩ := a4 o v hv
        rw [World.cell?, hD, h3] at hc
        simp at hc
    | map es => exact absurd ⟨b, e, _, he, hB, rfl, hD⟩ h2
    | siter t p => exact absurd ⟨b, e, _, he, hB, rfl, hD⟩ h2
    | loop L => exact absurd ⟨b, e, _, he, hB, rfl, hD⟩ h2
  · exact ho.congr (fun _ _ h => h) (fun _ => World.putObj_heap_other hD)
theorem EvA.body {f : FuncId} {fn : Func} {c : Code} {args : List Value} {Q : Value → Hp → Prop} (hf : P.funcs[f]? = some fn) (hb : fn.body = some c) (hn : (fn.name != "runtime.NumGoroutine") = true)
    (hl : args.length ≤ fn.ntmps) (hw : WpA P fn.ntmps c (bodyQ P fn.results.toList Q) (fun i => args.getD i any) h) : EvA P f args Q h := by
  refine ⟨by simp only [callable, hf, hb, hn, Option.isSome_some, Bool.and_self], ?_⟩
  intro μ w vs hr hv
  refine callsIn_wd.1 (callsIn_of_wp_marks (F := Wd none) (n := 0) hf hb trivial ?_)
  have hlen : args.length = vs.size := by have := hv.1; simpa using this
  refine wpIn_mono (hw none w.heap.size μ w _ (fun _ => rfl) hr ?_ ⟨Nat.le_refl _, [], rfl, by simp, by simp⟩) ?_
  · refine ⟨by simp; omega, fun i => ?_⟩
    show VRel μ (args.getD i any) ((vs ++ Array.replicate (fn.ntmps - vs.size) undef).getD i undef)
    rw [List.getD_eq_getElem?_getD, Array.getD_eq_getD_getElem?]
    cases hx : args[i]? with
    | none => exact .any _
    | some x =>
      obtain ⟨y, hy, hxy⟩ := hv.get hx
      rw [Array.getElem?_toList] at hy
      have hi : i < vs.size := by
        rcases Nat.lt_or_ge i vs.size with h' | h'
        · exact h'
        · rw [Array.getElem?_eq_none h'] at hy; simp at hy
      rw [Array.getElem?_append_left hi, hy]
      exact hxy
  · rintro e a' w' ⟨μ', fr', h', s, r1, r2, r3⟩
    have key : ∀ (hq : match resultsA P fr' h' fn.results.toList with | some vs => Q (tupA vs) h' | none => False),
        LeavesInM (Wd none) 0 P fn a'.tmps (fun e w' => ∃ μ' h' r v', e = .returned v' ∧ Step μ h w μ' h' w' ∧ VRel μ' r v' ∧ Q r h') a'.defers .returning w' := by
      intro hq
      split at hq
      · rename_i vs0 hvs
        obtain ⟨hm, Ds, he, hnd, hall⟩ := r2
        rw [he]
        clear he hw hl hlen
        have hkeep : ∀ D ∈ Ds, w.heap.size ≤ D ∧ D < w'.heap.size ∧ ¬ Own μ' h' D ∧ w'.heap[D]? = some (.deferred (some [])) := hall
        clear hall
        induction Ds generalizing w' with
        | nil =>
          simp only [List.map_nil, LeavesInM, LeavesIn]
          obtain ⟨vs', e1, e2⟩ := resultsA_ok (P := P) s.rel r1 _ _ hvs
          refine ⟨if h : vs'.toArray.size = 1 then vs'.toArray[0] else .tuple vs'.toArray, ?_, μ', h', tupA vs0, _, rfl, s, ?_, hq⟩
          · unfold results
            rw [Array.mapM_eq_mapM_toList]
            simp only [Sem.run_bind, Sem.run_map]
            generalize hg : Sem.run P (List.mapM _ fn.results.toList) w' = g
            have hg' : g = .ok vs' w' := hg.symm.trans e1
            subst hg'
            simp only [Result.andThen_ok, Sem.run_pure]
          · have hlen := e2.1
            match vs0, vs', e2, hlen with
            | [], [], _, _ => exact .any _
            | [x], [y], e2, _ => exact e2.2 0 x y rfl rfl
            | x :: y :: xs, a :: b :: bs, e2, hlen =>
              have : ¬ (a :: b :: bs).toArray.size = 1 := by simp
              rw [dif_neg this]
              exact LRel.tup (by simpa [ARel] using e2)
        | cons D Ds ih =>
          simp only [List.map_cons, LeavesInM]
          obtain ⟨g0, g1, g2, g3⟩ := hkeep D (by simp)
          rw [List.nodup_cons] at hnd
          refine ⟨by simp, .inl ⟨D, _, rfl, run_takeDeferred g3, ?_⟩⟩
          refine ih (w' := w'.putObj D (.deferred none)) (s.shut g0 g1 g2 g3) (by simpa using hm) hnd.2 ?_
          intro E hE
          obtain ⟨k0, k1, k2, k3⟩ := hkeep E (by simp [hE])
          refine ⟨k0, by simpa using k1, k2, (World.putObj_heap_other ?_).trans k3⟩
          rintro rfl
          exact hnd.1 hE
      · exact hq.elim
    cases e with
    | normal => exact key r3
    | ret => exact key r3
    | exit id => exact r3.elim
    | goto l => exact r3.elim
    | panic c => exact r3.elim
    | outgrown => exact r3.elim
end
end Go.Ab
