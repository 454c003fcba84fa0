/- The evaluator over tree heaps: what it computes, the call comes to; no condition. -/
import Derived.Test.YtojdhmkjegkfkaaAb27
namespace Go.Ab
open Go.RowKit
theorem FT.new_get (i : Nat) : FT.new.get i = any := by
  rw [FT.get_eq]
  split
  · have : ∀ {α : Type} (x : α) (j : Nat), (W.all x).at j = x := by intro α x j; obtain _ | _ | _ | _ | _ | _ | _ | j := j <;> rfl
    simp [FT.new, this]
  · rfl
theorem FT.putK_eq {S : Type} (f : FT) (i : Nat) (v : Value) (k : FT → S) : f.putK i v k = k (f.set i v) := by
  unfold FT.putK; rw [putWK_eq]
theorem FT.set_put (f : FT) {n i : Nat} (v : Value) (hi : i < n) (hn : n ≤ 512) : (f.set i v).get = putF n f.get (some i) v := by
  funext j
  rw [FT.get_set _ _ (by omega), putF_some, if_pos hi]
theorem pW_inv {R : Type} {n : Nat} {fr : FT} {d : Option Tmp} {v : Value} {k : FT → Option R} {r : R} (hn : n ≤ 512) (h : pW n fr d v k = some r) : ∃ fr', k fr' = some r ∧ fr'.get = putF n fr.get d v := by
  cases d with
  | none => exact ⟨fr, h, rfl⟩
  | some d =>
    have h' : (bif Nat.ble (Nat.succ d) n then fr.putK d v k else none) = some r := h
    cases hd : Nat.ble (Nat.succ d) n with
    | false => rw [hd] at h'; cases h'
    | true =>
      rw [hd] at h'
      simp only [cond_true, FT.putK_eq] at h'
      exact ⟨_, h', FT.set_put fr v (Nat.le_of_ble_eq_true hd) hn⟩
def EndsT (e : Exit) (fr : FT) (h : HT) : QA := fun e' g h' => e' = e ∧ g = fr.get ∧ h' = h.hp
structure RecOkT (P : Program) (rec : RecsT) : Prop where
  call : ∀ f args h r h', rec.call f args h = some (r, h') → EvA P f args (Is r h'.hp) h.hp
  code : ∀ n c fr h e fr' h', n ≤ 512 → rec.code n c fr h = some (e, fr', h') → WpA P n c (EndsT e fr' h') fr.get h.hp
section
variable {P : Program} {n : Nat} {ops : Array Oper}
theorem loadU_inv {R : Type} (hn : n ≤ 512) {g : Nat → Value} {k : FT → Option R} {r : R} : ∀ (i : Nat) (t : FT), loadU n g k i t = some r → ∃ t', k t' = some r ∧ ∀ j, t'.get j = if j < i then g j else t.get j := by
  intro i
  induction i with
  | zero => intro t h; exact ⟨t, h, fun j => by simp⟩
  | succ i ih =>
    intro t h
    have h' : pW n t (some i) (g i) (loadU n g k i) = some r := h
    have hin : i < n := by
      rcases Nat.lt_or_ge i n with h1 | h1
      · exact h1
      · have h2 : (bif Nat.ble (Nat.succ i) n then t.putK i (g i) (loadU n g k i) else none) = some r := h'
        have : Nat.ble (Nat.succ i) n = false := by
          cases hb : Nat.ble (Nat.succ i) n with
          | false => rfl
          | true => have := Nat.le_of_ble_eq_true hb; omega
        rw [this] at h2; cases h2
    obtain ⟨t1, e1, e2⟩ := pW_inv hn h'
    obtain ⟨t2, e3, e4⟩ := ih t1 e1
    refine ⟨t2, e3, fun j => ?_⟩
    rw [e4, e2, putF_some, if_pos hin]
    by_cases h1 : j < i
    · rw [if_pos h1, if_pos (by omega)]
    · rw [if_neg h1]
      by_cases h2 : j = i
      · subst h2; rw [if_pos rfl, if_pos (by omega)]
      · rw [if_neg h2, if_neg (by omega)]
theorem psU_inv {R : Type} (hn : n ≤ 512) {k : FT → Option R} {r : R} : ∀ (ps : List (Tmp × Value)) (t : FT), psU n k ps t = some r → ∃ t', k t' = some r ∧ t'.get = ps.foldl (fun fr p => putF n fr (some p.1) p.2) t.get := by
  intro ps
  induction ps with
  | nil => intro t h; exact ⟨t, h, rfl⟩
  | cons p ps ih =>
    intro t h
    obtain ⟨t1, e1, e2⟩ := pW_inv hn (show pW n t (some p.1) p.2 (psU n k ps) = some r from h)
    obtain ⟨t2, e3, e4⟩ := ih t1 e1
    exact ⟨t2, e3, by rw [e4, e2]; rfl⟩
theorem roundT_ok {rec : RecsT} (hrec : RecOkT P rec) {b : Nat} {args : List Value} {h : HT} {r : Value} {h' : HT} (he : roundT rec b args h = some (r, h')) : RoundA P b args (Is r h'.hp) h.hp := by
  unfold roundT at he
  split at he
  case h_2 => cases he
  rename_i L hB
  split at he
  case h_2 => cases he
  rename_i hr1 hr2
  cases hc : (Nat.beq args.length L.ps.size && Nat.ble L.n 512) with
  | false => rw [hc] at he; cases he
  | true =>
    rw [hc] at he
    simp only [cond_true] at he
    simp only [Bool.and_eq_true, Nat.beq_eq] at hc
    have hn : L.n ≤ 512 := Nat.le_of_ble_eq_true hc.2
    obtain ⟨t1, e1, e2⟩ := loadU_inv hn _ _ he
    obtain ⟨t2, e3, e4⟩ := psU_inv hn _ _ e1
    have hw : ∀ i, t2.get i = putPs L args i ∨ t2.get i = any := by
      rw [e4]
      refine foldl_weak L.n _ _ _ fun i => ?_
      rw [e2]
      by_cases hi : i < L.n
      · exact .inl (by rw [if_pos hi])
      · exact .inr (by rw [if_neg hi]; exact FT.new_get i)
    refine ⟨L, by rw [HT.hp_get]; exact hB, hc.1, hr1, hr2, WpA.weaken ?_ hw⟩
    split at e3
    case h_2 => cases e3
    rename_i t3 h1 hc1
    refine (hrec.code _ _ _ _ _ _ _ hn hc1).mono ?_
    rintro e g h'' ⟨rfl, rfl, rfl⟩
    split at e3
    case h_2 => cases e3
    rename_i L1 hB1
    split at e3
    case h_2 => cases e3
    rename_i hst
    obtain ⟨h1', q1, q2⟩ := HT.put_inv e3
    clear e3
    split at q1
    case h_2 => cases q1
    rename_i e _ h2 hc2
    have hw2 := hrec.code _ _ _ _ _ _ _ hn hc2
    rw [q2] at hw2
    refine ⟨rfl, L1, by rw [HT.hp_get]; exact hB1, hst, hw2.mono ?_⟩
    rintro e' g h3 ⟨rfl, rfl, rfl⟩
    split at q1
    case h_2 => cases q1
    rename_i L2 hB2
    refine ⟨L2, by rw [HT.hp_get]; exact hB2, ?_⟩
    split at q1
    · obtain ⟨h4, r1, r2⟩ := HT.put_inv q1; simp at r1; obtain ⟨rfl, rfl⟩ := r1; exact ⟨rfl, r2.symm⟩
    · obtain ⟨h4, r1, r2⟩ := HT.put_inv q1; simp at r1; obtain ⟨rfl, rfl⟩ := r1; exact ⟨rfl, r2.symm⟩
    · obtain ⟨h4, r1, r2⟩ := HT.put_inv q1; simp at r1; obtain ⟨rfl, rfl⟩ := r1; exact ⟨rfl, r2.symm⟩
    · cases q1
theorem tVF_eq (v : Value) (k : Value → Option (FT × HT)) : tVF v k = k v := by
  cases v with
  | bool b => cases b <;> rfl
  | int kd m =>
    cases m with
    | ofNat m => show sNat m (fun m => k (.int kd (.ofNat m))) = _; rw [sNat_eq]
    | negSucc m => show sNat m (fun m => k (.int kd (.negSucc m))) = _; rw [sNat_eq]
  | string s => show tVal (.string s) k = _; exact tVal_eq _ _
  | pointer a =>
    cases a with
    | none => rfl
    | some ad =>
      obtain ⟨b, o, s⟩ := ad
      show sNat b (fun b => sNat o fun o => k (.pointer (some ⟨b, o, s⟩))) = _
      rw [sNat_eq, sNat_eq]
  | slice a m c => show tVal (.slice a m c) k = _; exact tVal_eq _ _
  | map r => show tVal (.map r) k = _; exact tVal_eq _ _
  | agg c => show tVal (.agg c) k = _; exact tVal_eq _ _
  | tuple c => show tVal (.tuple c) k = _; exact tVal_eq _ _
  | _ => rfl
/-- where an answer is put -/
def PutOk (n : Nat) (d : Option Tmp) (p : PutT) : Prop := ∀ (fr : FT) (v : Value) (k : FT → Option (FT × HT)) (r : FT × HT), p fr v k = some r → ∃ fr', k fr' = some r ∧ fr'.get = putF n fr.get d v
theorem putD_ok {R : Type} {d : Option Tmp} {k : PutT → Option R} {r : R} (hn : n ≤ 512) (h : putD n d k = some r) : ∃ p, k p = some r ∧ PutOk n d p := by
  cases d with
  | none => exact ⟨_, h, fun fr v k r h => ⟨fr, h, rfl⟩⟩
  | some d =>
    have h' : (bif Nat.ble (Nat.succ d) n then putWK d k else none) = some r := h
    cases hd : Nat.ble (Nat.succ d) n with
    | false => rw [hd] at h'; cases h'
    | true =>
      rw [hd] at h'
      simp only [cond_true, putWK_eq] at h'
      exact ⟨_, h', fun fr v k r h => ⟨_, h, FT.set_put fr v (Nat.le_of_ble_eq_true hd) hn⟩⟩
theorem stepT_ok {rec : RecsT} (hrec : RecOkT P rec) {o : Oper} {run : RunT} (hrun : ∀ fr h x, run fr h = some x → opA P (evalA fr.get) o.op h.hp = some (x.at h.hp)) {p : PutT} (hp : PutOk n o.dst p) {ih : FT → HT → Option (FT × HT)} {K : Fr → Hp → Prop} {fr' : FT} {h' : HT}
    (hih : ∀ t h1, ih t h1 = some (fr', h') → K t.get h1.hp) {fr : FT} {h : HT} (hs : stepT rec p run ih fr h = some (fr', h')) :
    match opA P (evalA fr.get) o.op h.hp with
      | none => False
      | some (.val v h1) => K (putF n fr.get o.dst v) h1
      | some (.enter g args) => EvA P g args (fun r h1 => K (putF n fr.get o.dst r) h1) h.hp
      | some (.round b args) => RoundA P b args (fun r h1 => K (putF n fr.get o.dst r) h1) h.hp := by
  unfold stepT at hs
  split at hs
  · rename_i v e hop
    rw [hrun _ _ _ hop]
    rw [tVF_eq] at hs
    obtain ⟨h1, q1, q2⟩ := onT_inv hs
    obtain ⟨t, e1, e2⟩ := hp _ _ _ _ q1
    simp only [ResT.at]
    rw [← e2, ← q2]
    exact hih _ _ e1
  · rename_i g args hop
    rw [hrun _ _ _ hop]
    split at hs
    · rename_i r h1 hc
      obtain ⟨t, e1, e2⟩ := hp _ _ _ _ hs
      refine (hrec.call _ _ _ _ _ hc).mono ?_
      rintro r' h'' ⟨rfl, rfl⟩
      rw [← e2]
      exact hih _ _ e1
    · cases hs
  · rename_i b args hop
    rw [hrun _ _ _ hop]
    split at hs
    · rename_i r h1 hc
      obtain ⟨t, e1, e2⟩ := hp _ _ _ _ hs
      refine (roundT_ok hrec hc).mono ?_
      rintro r' h'' ⟨rfl, rfl⟩
      rw [← e2]
      exact hih _ _ e1
    · cases hs
  · cases hs
/-- what a decoded operation is -/
def MOk (P : Program) (n : Nat) (ops : Array Oper) (o : Oper) : MOpT → Prop
  | .mov p x => PutOk n o.dst p ∧ (∀ fr : FT, wantA ops o fr.get = some true) ∧ ∀ (fr : FT) h, opA P (evalA fr.get) o.op h = some (.val (x fr) h)
  | .movG g want p x => PutOk n o.dst p ∧ (∀ fr : FT, wantA ops o fr.get = wantV (g fr) want) ∧ ∀ (fr : FT) h, opA P (evalA fr.get) o.op h = some (.val (x fr) h)
  | .op p run => PutOk n o.dst p ∧ (∀ fr : FT, wantA ops o fr.get = some true) ∧ ∀ fr h x, run fr h = some x → opA P (evalA fr.get) o.op h.hp = some (x.at h.hp)
  | .opG g want p run => PutOk n o.dst p ∧ (∀ fr : FT, wantA ops o fr.get = wantV (g fr) want) ∧ ∀ fr h x, run fr h = some x → opA P (evalA fr.get) o.op h.hp = some (x.at h.hp)
theorem actD_ok (hn : n ≤ 512) {o : Oper} {mv : PutT → (FT → Value) → MOpT} {op : PutT → RunT → MOpT} {m : MOpT} (h : actD P n o mv op = some m) :
    (∃ p x, m = mv p x ∧ PutOk n o.dst p ∧ ∀ (fr : FT) h, opA P (evalA fr.get) o.op h = some (.val (x fr) h)) ∨
    (∃ p run, m = op p run ∧ PutOk n o.dst p ∧ ∀ fr h x, run fr h = some x → opA P (evalA fr.get) o.op h.hp = some (x.at h.hp)) := by
  unfold actD at h
  obtain ⟨p, h1, h2⟩ := putD_ok hn h
  split at h1
  · rename_i x hx
    rw [opdK_eq] at h1
    simp at h1
    exact .inl ⟨p, _, h1.symm, h2, fun fr h => by rw [hx]; exact opA_move x⟩
  · rename_i x hx
    rw [opdK_eq] at h1
    simp at h1
    exact .inl ⟨p, _, h1.symm, h2, fun fr h => by rw [hx]; exact opA_assign x⟩
  · obtain ⟨f, h3, h4⟩ := opT_ok h1
    simp at h3
    exact .inr ⟨p, f, h3.symm, h2, h4⟩
theorem compT_ok (hn : n ≤ 512) {o : Oper} {m : MOpT} (h : compT P n ops o = some m) : MOk P n ops o m := by
  unfold compT at h
  split at h
  · rename_i hg
    have hw : ∀ fr : FT, wantA ops o fr.get = some true := fun fr => by unfold wantA; rw [hg]
    rcases actD_ok hn h with ⟨p, x, rfl, h1, h2⟩ | ⟨p, run, rfl, h1, h2⟩
    · exact ⟨h1, hw, h2⟩
    · exact ⟨h1, hw, h2⟩
  · rename_i j want hg
    split at h
    · cases h
    · rename_i d hd
      rw [getK_eq, sBool_eq] at h
      have hw : ∀ fr : FT, wantA ops o fr.get = wantV (fr.get d) want := fun fr => by
        unfold wantA; rw [hg]; simp only [hd]; rfl
      rcases actD_ok hn h with ⟨p, x, rfl, h1, h2⟩ | ⟨p, run, rfl, h1, h2⟩
      · exact ⟨h1, hw, h2⟩
      · exact ⟨h1, hw, h2⟩
theorem wantT_ok {R : Type} {g : Value} {want : Bool} {yes no : Unit → Option R} {r : R} (h : wantT g want yes no = some r) : (wantV g want = some true ∧ yes () = some r) ∨ (wantV g want = some false ∧ no () = some r) := by
  unfold wantT at h
  split at h
  · rename_i b
    cases b <;> cases want
    · exact .inl ⟨rfl, h⟩
    · exact .inr ⟨rfl, h⟩
    · exact .inr ⟨rfl, h⟩
    · exact .inl ⟨rfl, h⟩
  · exact .inr ⟨rfl, h⟩
  · cases h
theorem opsT_ok {rec : RecsT} (hrec : RecOkT P rec) (hn : n ≤ 512) : ∀ (l : List Oper) (fr : FT) (h : HT) (fr' : FT) (h' : HT), opsT P rec n ops l fr h = some (fr', h') → runOps P n ops (fun g h'' => g = fr'.get ∧ h'' = h'.hp) l fr.get h.hp := by
  intro l
  induction l with
  | nil => intro fr h fr' h' he; have : some (fr, h) = some (fr', h') := he; simp at this; simp [runOps, this]
  | cons o l ih =>
    intro fr h fr' h' he
    have he' : Option.rec (motive := fun _ => Option (FT × HT)) none (fun m => doT rec m (opsT P rec n ops l) fr h) (compT P n ops o) = some (fr', h') := he
    clear he
    simp only [runOps]
    have skip : ∀ (p : PutT), PutOk n o.dst p → p fr sk (fun fr => opsT P rec n ops l fr h) = some (fr', h') →
        runOps P n ops (fun g h'' => g = fr'.get ∧ h'' = h'.hp) l (putF n fr.get o.dst sk) h.hp := by
      intro p hpo hp
      obtain ⟨t, e1, e2⟩ := hpo _ _ _ _ hp
      rw [← e2]
      exact ih _ _ _ _ e1
    have go : ∀ (p : PutT) (x : FT → Value), PutOk n o.dst p → p fr (x fr) (fun fr => opsT P rec n ops l fr h) = some (fr', h') →
        runOps P n ops (fun g h'' => g = fr'.get ∧ h'' = h'.hp) l (putF n fr.get o.dst (x fr)) h.hp := by
      intro p x hpo hp
      obtain ⟨t, e1, e2⟩ := hpo _ _ _ _ hp
      rw [← e2]
      exact ih _ _ _ _ e1
    cases hm : compT P n ops o with
    | none => rw [hm] at he'; cases he'
    | some m =>
      rw [hm] at he'
      have he2 : doT rec m (opsT P rec n ops l) fr h = some (fr', h') := he'
      clear he'
      have hmk := compT_ok hn hm
      cases m with
      | mov p x =>
        obtain ⟨h1, h2, h3⟩ := hmk
        rw [h2]
        refine ⟨fun _ => ?_, fun h => by simp at h⟩
        rw [h3]
        exact go p x h1 he2
      | movG g want p x =>
        obtain ⟨h1, h2, h3⟩ := hmk
        rw [h2]
        simp only [doT] at he2
        rcases wantT_ok he2 with ⟨w1, w2⟩ | ⟨w1, w2⟩
        · rw [w1]
          refine ⟨fun _ => ?_, fun h => by simp at h⟩
          rw [h3]
          exact go p x h1 w2
        · rw [w1]
          exact ⟨fun h => by simp at h, fun _ => skip p h1 w2⟩
      | op p run =>
        obtain ⟨h1, h2, h3⟩ := hmk
        rw [h2]
        refine ⟨fun _ => ?_, fun h => by simp at h⟩
        exact stepT_ok (K := fun f h1 => runOps P n ops (fun g h'' => g = fr'.get ∧ h'' = h'.hp) l f h1) hrec h3 h1 (fun t h1 => ih t h1 fr' h') he2
      | opG g want p run =>
        obtain ⟨h1, h2, h3⟩ := hmk
        rw [h2]
        simp only [doT] at he2
        rcases wantT_ok he2 with ⟨w1, w2⟩ | ⟨w1, w2⟩
        · rw [w1]
          refine ⟨fun _ => ?_, fun h => by simp at h⟩
          exact stepT_ok (K := fun f h1 => runOps P n ops (fun g h'' => g = fr'.get ∧ h'' = h'.hp) l f h1) hrec h3 h1 (fun t h1 => ih t h1 fr' h') w2
        · rw [w1]
          exact ⟨fun h => by simp at h, fun _ => skip p h1 w2⟩
end
end Go.Ab
