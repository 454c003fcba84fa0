/- The evaluator over tree heaps, second part: statements whose order is drawn, code, calls; no condition. -/
import Derived.Test.YtojdhmkjegkfkaaAb28
namespace Go.Ab
open Go.RowKit
section
variable {P : Program} {n : Nat} {ops : Array Oper}
theorem drT_ok {rec : RecsT} (hrec : RecOkT P rec) (hn : n ≤ 512) : ∀ (l : List Nat) (fr : FT) (h : HT) (C : List Nat → HT → Bool) (C' : List Nat → Hp → Prop) (fr' : FT) (h' : HT), (∀ A g, C A g = true → C' A g.hp) → drT P rec n ops l fr h C = some (fr', h') →
    drC P n ops (ancT ops) (fun g h'' => g = fr'.get ∧ h'' = h'.hp) l fr.get h.hp C' := by
  intro l
  induction l with
  | nil => intro fr h C C' fr' h' hC he; have : some (fr, h) = some (fr', h') := he; simp at this; simp [drC, this]
  | cons i l ih =>
    intro fr h C C' fr' h' hC he
    simp only [drT] at he
    simp only [drC]
    split at he
    · cases he
    rename_i o ho
    rw [ho]
    simp only
    have hil : i < ops.size := (Array.getElem?_eq_some_iff.1 ho).1
    have look : ∀ f, (∀ fr h x, f fr h = some x → opA P (evalA fr.get) o.op h.hp = some (x.at h.hp)) → cls o.op ≠ 2 → newA P (evalA fr.get) o.op = none → lookT2 f n i o (drT P rec n ops l) fr h C = some (fr', h') →
        seen (opA P (evalA fr.get) o.op h.hp) (fun v h'' => h'' = h.hp ∧ drC P n ops (ancT ops) (fun g h'' => g = fr'.get ∧ h'' = h'.hp) l (putF n fr.get o.dst v) h.hp (fun A g => C' A g ∧ (A.contains i = true ∨ opA P (evalA fr.get) o.op g = some (.val v g)))) .mk := by
      intro f hf h1 h2 hl
      unfold lookT2 at hl
      split at hl
      · rename_i v e hop
        have hop' := hf _ _ _ hop
        have hg := look_same h1 h2 hop'
        rw [tVal_eq] at hl
        obtain ⟨t, e1, e2⟩ := pW_inv hn hl
        rw [hop']
        simp only [ResT.at, seen_val]
        refine ⟨hg, ?_⟩
        rw [← e2]
        refine ih _ _ _ _ _ _ (fun A g hg => ?_) e1
        simp only [Bool.and_eq_true, Bool.or_eq_true] at hg
        refine ⟨hC A g hg.1, hg.2.imp id fun hs => ?_⟩
        unfold seesT at hs
        split at hs
        · rename_i v' e' hop2
          have hop3 := hf _ _ _ hop2
          have := look_same h1 h2 hop3
          simp only [ResT.at] at hop3
          rw [hop3, vEq_ok 5 _ _ hs, this]
        · simp at hs
      · cases hl
    split at he
    · cases he
    · rename_i hw
      rw [hw]
      obtain ⟨t, e1, e2⟩ := pW_inv hn he
      simp only [wanted_false]
      rw [← e2]
      exact ih _ _ _ _ _ _ hC e1
    · rename_i hw
      rw [hw]
      simp only [wanted_true]
      have hcl := cls_le o.op
      split at he
      · cases he
      rename_i f hfo
      obtain ⟨f', hf1, hf⟩ := opT_ok hfo
      simp only [Option.some.injEq] at hf1
      subst hf1
      split at he
      · rename_i hc
        rw [hc]
        simp only
        split at he
        · rename_i v e hop
          have hop' := hf _ _ _ hop
          have hg := look_same (P := P) (by omega) (cls_new (by omega) _) hop'
          rw [tVal_eq] at he
          obtain ⟨t, e1, e2⟩ := pW_inv hn he
          rw [hop']
          simp only [ResT.at, seen_val]
          refine ⟨hg, ?_⟩
          rw [← e2]
          exact ih _ _ _ _ _ _ hC e1
        · cases he
      · rename_i hc
        rw [hc]
        exact look _ hf (by omega) (cls1_new hc _) he
      · rename_i hc
        rw [hc]
        simp only
        cases hef : isEff o.op with
        | false => rw [hef] at he; cases he
        | true =>
          rw [hef] at he
          simp only [cond_true] at he
          refine ⟨rfl, ?_⟩
          unfold actT at he
          rw [ancT_get hil]
          have fin : ∀ {v : Value} {h1 : HT}, (bif C (preds ops i) h1 then pW n fr o.dst v fun fr => drT P rec n ops l fr h1 C else none) = some (fr', h') →
              C' (preds ops i) h1.hp ∧ drC P n ops (ancT ops) (fun g h'' => g = fr'.get ∧ h'' = h'.hp) l (putF n fr.get o.dst v) h1.hp C' := by
            intro v h1 hb
            cases hCc : C (preds ops i) h1 with
            | false => rw [hCc] at hb; cases hb
            | true =>
              rw [hCc] at hb
              simp only [cond_true] at hb
              obtain ⟨t, e1, e2⟩ := pW_inv hn hb
              refine ⟨hC _ _ hCc, ?_⟩
              rw [← e2]
              exact ih _ _ _ _ _ _ hC e1
          split at he
          · rename_i v e hop
            rw [tVal_eq] at he
            obtain ⟨h1, q1, q2⟩ := onT_inv he
            rw [hf _ _ _ hop]
            simp only [ResT.at, after_val]
            rw [← q2]
            exact fin q1
          · rename_i g args hop
            split at he
            · rename_i r h1 hcl
              rw [hf _ _ _ hop]
              refine after_call (hrec.call _ _ _ _ _ hcl) ?_
              rintro r' h'' ⟨rfl, rfl⟩
              exact fin he
            · cases he
          · rename_i b args hop
            split at he
            · rename_i r h1 hcl
              rw [hf _ _ _ hop]
              refine after_round ((roundT_ok hrec hcl).mono ?_)
              rintro r' h'' ⟨rfl, rfl⟩
              exact fin he
            · cases he
          · cases he
      · rename_i hc0 hc1 hc2
        have hc3 : cls o.op = 3 := by
          have g0 : cls o.op ≠ 0 := fun h => hc0 h
          have g1 : cls o.op ≠ 1 := fun h => hc1 h
          have g2 : cls o.op ≠ 2 := fun h => hc2 h
          omega
        rw [hc3]
        simp only
        split at he
        · rename_i B g hnew
          rw [hnew]
          simp only
          obtain ⟨h1, q1, q2⟩ := HT.push_inv he
          cases hCc : C [] h1 with
          | false => rw [hCc] at q1; cases q1
          | true =>
            rw [hCc] at q1
            simp only [cond_true, tVal_eq] at q1
            obtain ⟨t, e1, e2⟩ := pW_inv hn q1
            rw [← q2, HT.hp_len]
            refine ⟨hC _ _ hCc, ?_⟩
            rw [← e2]
            refine ih _ _ _ _ _ _ (fun A g hg => ?_) e1
            simp only [Bool.and_eq_true, Bool.or_eq_true] at hg
            refine ⟨hC A g hg.1, hg.2.imp id fun hs => ?_⟩
            unfold keptT at hs
            split at hs
            · rename_i B' hB'; rw [HT.hp_get, hB', bEq_ok hs]
            · simp at hs
        · rename_i hnew
          rw [hnew]
          exact look _ hf hc2 hnew he
theorem iterT_ok {c : Code} {f : FT → HT → Option (Exit × FT × HT)} (hf : ∀ fr h e fr' h', f fr h = some (e, fr', h') → WpA P n c (EndsT e fr' h') fr.get h.hp) : ∀ (k : Nat) (fr : FT) (h : HT) (e : Exit) (fr' : FT) (h' : HT), iterT f k fr h = some (e, fr', h') → roundsA P n c (EndsT e fr' h') k fr.get h.hp := by
  intro k
  induction k with
  | zero => intro fr h e fr' h' he; cases he
  | succ k ih =>
    intro fr h e fr' h' he
    have he2 : (match f fr h with
      | some (.normal, fr, h) => iterT f k fr h
      | r => r) = some (e, fr', h') := he
    clear he
    simp only [roundsA]
    split at he2
    · rename_i fr1 h1 hf1
      refine (hf _ _ _ _ _ hf1).mono ?_
      rintro e1 g h2 ⟨rfl, rfl, rfl⟩
      exact ih _ _ _ _ _ he2
    · rename_i hne
      refine (hf _ _ _ _ _ he2).mono ?_
      rintro e1 g h2 ⟨rfl, rfl, rfl⟩
      cases e1 with
      | normal => exact (hne _ _ he2).elim
      | _ => exact ⟨rfl, rfl, rfl⟩
theorem codeT_ok (hm : P.follows .mixedOrders = true) {rec : RecsT} (hrec : RecOkT P rec) (hn : n ≤ 512) : ∀ (c : Code) (fr : FT) (h : HT) (e : Exit) (fr' : FT) (h' : HT), codeT P rec n c fr h = some (e, fr', h') → WpA P n c (EndsT e fr' h') fr.get h.hp := by
  intro c
  induction c with
  | skip => intro fr h e fr' h' he; simp [codeT] at he; obtain ⟨rfl, rfl, rfl⟩ := he; exact WpA.skip ⟨rfl, rfl, rfl⟩
  | region id ops draw =>
    intro fr h e fr' h' he
    replace he : regionT P rec n ops draw fr h = some (e, fr', h') := he
    cases draw with
    | false =>
      simp only [regionT] at he
      split at he
      · rename_i fr1 h1 ho
        simp at he
        obtain ⟨rfl, rfl, rfl⟩ := he
        refine (WpA.region (opsT_ok hrec hn _ _ _ _ _ ho)).mono ?_
        intro e g h2 hq
        cases e with
        | normal => exact ⟨rfl, hq.1, hq.2⟩
        | _ => exact hq.elim
      · cases he
    | true =>
      simp only [regionT] at he
      cases hp : planOk n ops (mkPlan ops ops.size []) with
      | false => rw [hp] at he; cases he
      | true =>
        rw [hp] at he
        simp only [cond_true] at he
        split at he
        · rename_i fr1 h1 ho
          simp at he
          obtain ⟨rfl, rfl, rfl⟩ := he
          refine WpA.drawnA (mkPlan ops ops.size []) (ancT ops) hm hp (ancT_ok ops) ?_
          have hd := drT_ok hrec hn _ _ _ (fun _ _ => true) (fun _ _ => True) _ _ (fun _ _ _ => trivial) ho
          have hk : normK (EndsT .normal fr1 h1) = fun g h'' => g = fr1.get ∧ h'' = h1.hp := by
            funext g h''; simp [normK, EndsT]
          rw [hk]; exact hd
        · cases he
  | seq x y ihx ihy =>
    intro fr h e fr' h' he
    replace he : seqT (codeT P rec n x) (codeT P rec n y) fr h = some (e, fr', h') := he
    simp only [seqT] at he
    refine WpA.seq ?_
    split at he
    · rename_i fr1 h1 h2
      refine (ihx _ _ _ _ _ h2).mono ?_
      rintro e1 g h3 ⟨rfl, rfl, rfl⟩
      exact ihy _ _ _ _ _ he
    · rename_i hne
      refine (ihx _ _ _ _ _ he).mono ?_
      rintro e1 g h3 ⟨rfl, rfl, rfl⟩
      cases e1 with
      | normal => exact (hne _ _ he).elim
      | _ => exact ⟨rfl, rfl, rfl⟩
  | cond c x y ihx ihy =>
    intro fr h e fr' h' he
    replace he : condT c (codeT P rec n x) (codeT P rec n y) fr h = some (e, fr', h') := he
    simp only [condT] at he
    split at he
    · rename_i hc; exact WpA.cond hc (ihx _ _ _ _ _ he)
    · rename_i hc; exact WpA.cond hc (ihy _ _ _ _ _ he)
    · cases he
  | block id c ih =>
    intro fr h e fr' h' he
    replace he : blockT id (codeT P rec n c) fr h = some (e, fr', h') := he
    simp only [blockT] at he
    refine WpA.block ?_
    split at he
    · rename_i id' fr1 h1 h2
      refine (ih _ _ _ _ _ h2).mono ?_
      rintro e1 g h3 ⟨rfl, rfl, rfl⟩
      simp only [blockQ]
      cases hb : Nat.beq id' id with
      | true =>
        rw [hb] at he
        simp at he
        obtain ⟨rfl, rfl, rfl⟩ := he
        rw [if_pos (Nat.eq_of_beq_eq_true hb)]
        exact ⟨rfl, rfl, rfl⟩
      | false =>
        rw [hb] at he
        simp at he
        obtain ⟨rfl, rfl, rfl⟩ := he
        rw [if_neg (Nat.ne_of_beq_eq_false hb)]
        exact ⟨rfl, rfl, rfl⟩
    · rename_i hne
      refine (ih _ _ _ _ _ he).mono ?_
      rintro e1 g h3 ⟨rfl, rfl, rfl⟩
      cases e1 with
      | exit id' => exact (hne _ _ _ he).elim
      | _ => exact ⟨rfl, rfl, rfl⟩
  | loop c ih =>
    intro fr h e fr' h' he
    replace he : iterT (codeT P rec n c) 100000 fr h = some (e, fr', h') := he
    exact WpA.rounds _ (iterT_ok ih _ _ _ _ _ _ he)
  | rangeFunc g ps x y _ _ =>
    intro fr h e fr' h' he
    replace he : rangeFT rec n g ps x y fr h = some (e, fr', h') := he
    simp only [rangeFT] at he
    split at he
    case h_2 => cases he
    rename_i gf first cap hg
    obtain ⟨h1, q1, q2⟩ := HT.push_inv he
    clear he
    split at q1
    case h_2 => cases q1
    rename_i r1 h2 hc
    refine WpA.rangeFunc hg ?_
    intro L l1 l2 l3 l4 l5 l6 l7
    have hL : L = { st := .ready, pend := none, n := n, fr := fr.get, ps := ps, assign := x, body := y } := by
      cases L; simp_all
    rw [hL, ← q2, HT.hp_len]
    refine (hrec.call _ _ _ _ _ hc).mono ?_
    rintro r' h'' ⟨rfl, rfl⟩
    split at q1
    case h_2 => cases q1
    rename_i L1 hB
    refine ⟨L1, by rw [HT.hp_get]; exact hB, ?_⟩
    split at q1
    · cases q1
    · rename_i hp hst
      obtain ⟨h4, r1, r2⟩ := HT.put_inv q1
      simp at r1
      obtain ⟨rfl, rfl, rfl⟩ := r1
      exact ⟨fun h => hst h, by rw [hp]; exact ⟨rfl, rfl, r2.symm⟩⟩
    · rename_i hp hst
      obtain ⟨h4, r1, r2⟩ := HT.put_inv q1
      simp at r1
      obtain ⟨rfl, rfl, rfl⟩ := r1
      exact ⟨fun h => hst h, by rw [hp]; exact ⟨rfl, rfl, r2.symm⟩⟩
    · rename_i hp hst
      obtain ⟨h4, r1, r2⟩ := HT.put_inv q1
      simp at r1
      obtain ⟨rfl, rfl, rfl⟩ := r1
      exact ⟨fun h => hst h, by rw [hp]; exact ⟨rfl, rfl, r2.symm⟩⟩
    · cases q1
  | exit id => intro fr h e fr' h' he; simp [codeT] at he; obtain ⟨rfl, rfl, rfl⟩ := he; exact WpA.exit ⟨rfl, rfl, rfl⟩
  | scope c _ => intro fr h e fr' h' he; cases he
  | label l => intro fr h e fr' h' he; simp [codeT] at he; obtain ⟨rfl, rfl, rfl⟩ := he; exact WpA.label ⟨rfl, rfl, rfl⟩
  | goto l => intro fr h e fr' h' he; cases he
  | ret => intro fr h e fr' h' he; simp [codeT] at he; obtain ⟨rfl, rfl, rfl⟩ := he; exact WpA.ret ⟨rfl, rfl, rfl⟩
  | refuse why => intro fr h e fr' h' he; cases he
theorem argsT_inv {R : Type} {k : FT → Option R} {r : R} (hn : n ≤ 512) : ∀ (vs : List Value) (i : Nat) (t : FT), argsT n k vs i t = some r → i ≤ n → i + vs.length ≤ n ∧ ∃ t', k t' = some r ∧ ∀ j, t'.get j = if i ≤ j ∧ j < i + vs.length then vs.getD (j - i) any else t.get j := by
  intro vs
  induction vs with
  | nil => intro i t h hi; exact ⟨by simpa using hi, t, h, fun j => by rw [if_neg (by simp only [List.length_nil]; omega)]⟩
  | cons v vs ih =>
    intro i t h hi
    replace h : tVal v (fun v => pW n t (some i) v fun t => argsT n k vs (Nat.succ i) t) = some r := h
    rw [tVal_eq] at h
    have hlt : i < n := by
      rcases Nat.lt_or_ge i n with h' | h'
      · exact h'
      · have h2 : (bif Nat.ble (Nat.succ i) n then t.putK i v (fun t => argsT n k vs (Nat.succ i) t) else none) = some r := h
        have : Nat.ble (Nat.succ i) n = false := by
          cases hb : Nat.ble (Nat.succ i) n with
          | false => rfl
          | true => have := Nat.le_of_ble_eq_true hb; omega
        rw [this] at h2; cases h2
    obtain ⟨t1, e1, e2⟩ := pW_inv hn h
    obtain ⟨h3, t2, e3, e4⟩ := ih (i + 1) t1 e1 hlt
    refine ⟨by simp; omega, t2, e3, fun j => ?_⟩
    rw [e4, e2, putF_some, if_pos hlt]
    simp only [List.length_cons]
    by_cases h1 : i + 1 ≤ j ∧ j < i + 1 + vs.length
    · rw [if_pos h1, if_pos (by omega), show j - i = (j - (i + 1)) + 1 by omega]
      simp [List.getD_eq_getElem?_getD]
    · rw [if_neg h1]
      by_cases h2 : j = i
      · subst h2; rw [if_pos rfl, if_pos (by omega)]; simp
      · rw [if_neg h2, if_neg (by omega)]
theorem resultsT_ok {fr : Fr} {h : HT} : ∀ (rs : List ResultVar) (vs : List Value), resultsT P fr h rs = some vs → resultsA P fr h.hp rs = some vs := by
  intro rs
  induction rs with
  | nil => intro vs h; exact h
  | cons r rs ih =>
    intro vs hv
    simp only [resultsT] at hv
    split at hv
    · rename_i v vs' h1 h2
      simp at hv; subst hv
      have := ih _ h2
      cases r with
      | tmp t => simp [resT] at h1; subst h1; simp [resultsA, resA, this]
      | cell a t => simp only [resT, loadT_ok] at h1; simp [resultsA, resA, this, h1]
    · cases hv
theorem funT_ok (hm : P.follows .mixedOrders = true) {rec : RecsT} (hrec : RecOkT P rec) {f : FuncId} {args : List Value} {h : HT} {r : Value} {h' : HT} (he : funT P rec f args h = some (r, h')) : EvA P f args (Is r h'.hp) h.hp := by
  cases hf : P.funcs[f]? with
  | none => simp only [funT, hf] at he; cases he
  | some fn =>
  cases hb : fn.body with
  | none => simp only [funT, hf, hb] at he; cases he
  | some c =>
  simp only [funT, hf, hb] at he
  cases hc : (callable P f && Nat.ble fn.ntmps 512) with
  | false => rw [hc] at he; cases he
  | true =>
    rw [hc] at he
    simp only [cond_true] at he
    simp only [Bool.and_eq_true] at hc
    have hn : fn.ntmps ≤ 512 := Nat.le_of_ble_eq_true hc.2
    have hname : (fn.name != "runtime.NumGoroutine") = true := by
      have := hc.1
      simp only [callable, hf, Bool.and_eq_true] at this
      exact this.1
    obtain ⟨h1, t, e1, e2⟩ := argsT_inv hn args 0 .new he (Nat.zero_le _)
    have ht : t.get = fun i => args.getD i any := by
      funext j
      rw [e2]
      by_cases hj : j < args.length
      · rw [if_pos (by omega)]; simp
      · rw [if_neg (by omega)]
        simp [List.getD_eq_getElem?_getD, List.getElem?_eq_none (Nat.le_of_not_lt hj), FT.new_get]
    refine EvA.body hf hb hname (by omega) ?_
    rw [← ht]
    split at e1
    · rename_i fr1 h2 hcode
      refine (codeT_ok hm hrec hn _ _ _ _ _ _ hcode).mono ?_
      rintro e g h3 ⟨rfl, rfl, rfl⟩
      split at e1
      · rename_i vs hvs
        rw [tVal_eq] at e1
        simp at e1
        obtain ⟨rfl, rfl⟩ := e1
        simp only [bodyQ, resultsT_ok _ _ hvs]
        exact ⟨rfl, rfl⟩
      · cases e1
    · rename_i fr1 h2 hcode
      refine (codeT_ok hm hrec hn _ _ _ _ _ _ hcode).mono ?_
      rintro e g h3 ⟨rfl, rfl, rfl⟩
      split at e1
      · rename_i vs hvs
        rw [tVal_eq] at e1
        simp at e1
        obtain ⟨rfl, rfl⟩ := e1
        simp only [bodyQ, resultsT_ok _ _ hvs]
        exact ⟨rfl, rfl⟩
      · cases e1
    · cases e1
theorem HT.nil_hp : (HT.mk 0 .nil).hp = [] := rfl
theorem recT_ok (hm : P.follows .mixedOrders = true) {t : Known} (ht : ∀ e ∈ t, Tells P e.1 e.2.1 e.2.2) (base : FuncId → Bool) : ∀ k, RecOkT P (recT P t base k) := by
  intro k
  induction k with
  | zero => exact ⟨fun f args h r h' he => (by cases he), fun n c fr h e fr' h' _ he => (by cases he)⟩
  | succ k ih =>
    refine ⟨fun f args h r h' he => ?_, fun n c fr h e fr' h' hn he => codeT_ok hm ih hn _ _ _ _ _ _ he⟩
    have he' : (bif base f then match lookT t f args with
      | some r => some (r, h)
      | none => match funT P (recT P t base k) f args ⟨0, .nil⟩ with
        | some (r, _) => bif flat r && args.all flat then some (r, h) else none
        | none => none
    else funT P (recT P t base k) f args h) = some (r, h') := he
    cases hb : base f with
    | false => rw [hb] at he'; exact funT_ok hm ih he'
    | true =>
      rw [hb] at he'
      simp only [cond_true] at he'
      split at he'
      · rename_i r1 hl
        simp at he'
        obtain ⟨rfl, rfl⟩ := he'
        exact lookT_ok t ht f args r1 hl h.hp
      · split at he'
        · rename_i r1 h1 hrun
          cases hfl : (flat r1 && args.all flat) with
          | false => rw [hfl] at he'; cases he'
          | true =>
            rw [hfl] at he'
            simp at he'
            obtain ⟨rfl, rfl⟩ := he'
            simp only [Bool.and_eq_true] at hfl
            have := funT_ok hm ih hrun
            rw [HT.nil_hp] at this
            refine (EvA.base (Q := fun r => r = r1) (h0 := []) (h := h.hp) hfl.2 (this.mono ?_)).mono ?_
            · rintro r2 h2 ⟨rfl, rfl⟩; exact ⟨hfl.1, rfl⟩
            · rintro r2 h2 ⟨rfl, rfl⟩; exact ⟨rfl, rfl⟩
        · cases he'
/-- **A closed call, run by the kernel, over tree heaps.** -/
theorem EvA.tree (hm : P.follows .mixedOrders = true) (t : Known) (ht : ∀ e ∈ t, Tells P e.1 e.2.1 e.2.2) (base : FuncId → Bool) (k : Nat) {f : FuncId} {args : List Value} {r : Value} (ha : args.all flat = true) (hr : flat r = true)
    (he : ((recT P t base k).call f args ⟨0, .nil⟩).map (·.1) = some r) : Tells P f args r := by
  intro h
  obtain ⟨⟨r1, h1⟩, e1, e2⟩ := Option.map_eq_some_iff.1 he
  simp at e2; subst e2
  have hc := (recT_ok hm ht base k).call _ _ _ _ _ e1
  rw [HT.nil_hp] at hc
  refine (EvA.base (Q := fun r => r = r1) (h0 := []) (h := h) ha (hc.mono ?_)).mono ?_
  · rintro r2 h2 ⟨rfl, rfl⟩; exact ⟨hr, rfl⟩
  · rintro r2 h2 ⟨rfl, rfl⟩; exact ⟨rfl, rfl⟩
end
end Go.Ab
