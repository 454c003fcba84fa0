/- Statements whose order is drawn, the words that simp uses; no condition. -/
import Derived.Test.YtaahkamnpobofaaAb16
/- Walks through statements whose operations come in several orders: one order is walked; no condition. -/
namespace Go.Ab
open Go.RowKit
section
variable {P : Program} {n : Nat} {ops : Array Oper} {K : Fr → Hp → Prop}

/-- 0: looks at no block; 1: looks at blocks; 2: acts; 3: makes a block, or looks at blocks -/
def cls : Op → Nat
  | .move _ => 0
  | .assign _ => 0
  | .pick _ _ _ => 0
  | .nilCheck _ => 0
  | .binOp .. => 0
  | .unOp .. => 0
  | .makeInterface _ _ => 0
  | .makeFunc _ _ _ => 0
  | .fieldAddr .. => 0
  | .field .. => 0
  | .indexAddr .. => 0
  | .index .. => 0
  | .extract _ _ => 0
  | .typeAssert .. => 0
  | .build _ _ => 0
  | .load _ _ => 1
  | .lookup .. => 1
  | .slice .. => 1
  | .alloc _ => 3
  | .box _ _ => 3
  | .buildSlice .. => 3
  | .makeSlice .. => 3
  | .makeMap _ _ => 3
  | .convert .. => 3
  | .call ⟨.builtin .len, _, _⟩ => 1
  | .call ⟨.builtin .cap, _, _⟩ => 1
  | .call ⟨.builtin .min, _, _⟩ => 1
  | .call ⟨.builtin .max, _, _⟩ => 1
  | _ => 2
theorem cls_call (c : Call) : cls (.call c) = 1 ∨ cls (.call c) = 2 := by
  obtain ⟨f, a, t⟩ := c
  cases f with
  | builtin b => cases b <;> simp [cls]
  | _ => simp [cls]
/-- what follows an operation that calls nothing -/
def seen (r : Option Res) (K : Value → Hp → Prop) (_ : Lazy K) : Prop :=
  match r with
  | some (.val v h') => K v h'
  | _ => False
@[simp] theorem seen_val (v : Value) (h' : Hp) (K : Value → Hp → Prop) (d : Lazy K) : seen (some (.val v h')) K d = K v h' := Eq.trans rfl rfl
theorem seen_of {r : Option Res} {v : Value} {h' : Hp} {K : Value → Hp → Prop} {d : Lazy K} (hr : r = some (.val v h')) (hk : K v h') : seen r K d := by rw [hr]; exact hk
theorem cls_pure {op : Op} (hc : cls op = 0) {ρ : Operand → Value} {h g : Hp} {v : Value} (ho : opA P ρ op h = some (.val v h)) : opA P ρ op g = some (.val v g) := by
  have key : ∀ x : Option Value, rv h x = some (.val v h) → rv g x = some (.val v g) := by
    intro x hx
    cases x with
    | none => simp [rv] at hx
    | some y => simp [rv] at hx ⊢; exact hx
  cases op <;> try (simp [cls] at hc; done)
  case call c => rcases cls_call c with h1 | h1 <;> rw [h1] at hc <;> simp at hc
  case move x => simp at ho ⊢; exact ho
  case assign x => simp at ho ⊢; exact ho
  case makeFunc f a c =>
    cases f with
    | func f => simp at ho ⊢; exact ho
    | _ => simp [opA] at ho
  all_goals first
    | exact key _ ho
    | (split at hc <;> simp at hc)
theorem cls_eff {op : Op} (hc : cls op ≠ 2) : isEff op = false := by
  cases op <;> first | rfl | (simp [cls] at hc; done) | skip
  rename_i c
  obtain ⟨f, a, t⟩ := c
  cases f with
  | builtin b => cases b <;> first | rfl | (simp [cls] at hc; done)
  | _ => simp [cls] at hc
theorem cls_new {op : Op} (hc : cls op ≠ 3) (ρ : Operand → Value) : newA P ρ op = none := by
  cases op <;> first | rfl | (simp [cls] at hc; done)

/-- the operations in one order; C: what those that looked at blocks would see again -/
def drC (P : Program) (n : Nat) (ops : Array Oper) (anc : List (List Nat)) (K : Fr → Hp → Prop) : List Nat → Fr → Hp → (List Nat → Hp → Prop) → Prop
  | [], fr, h, _ => K fr h
  | i :: rem, fr, h, C =>
    match ops[i]? with
    | none => False
    | some o => wanted (wantA ops o fr)
      (match cls o.op with
        | 0 => seen (opA P (evalA fr) o.op h) (fun v h' => h' = h ∧ drC P n ops anc K rem (putF n fr o.dst v) h C) .mk
        | 1 => seen (opA P (evalA fr) o.op h) (fun v h' => h' = h ∧ drC P n ops anc K rem (putF n fr o.dst v) h (fun A g => C A g ∧ (A.contains i = true ∨ opA P (evalA fr) o.op g = some (.val v g)))) .mk
        | 2 => isEff o.op = true ∧ after P h (opA P (evalA fr) o.op h) (fun v h' => C (anc.getD i []) h' ∧ drC P n ops anc K rem (putF n fr o.dst v) h' C) .mk
        | _ => match newA P (evalA fr) o.op with
          | some (B, f) => C [] (h ++ [B]) ∧ drC P n ops anc K rem (putF n fr o.dst (f h.length)) (h ++ [B]) (fun A g => C A g ∧ (A.contains i = true ∨ g[h.length]? = some B))
          | none => seen (opA P (evalA fr) o.op h) (fun v h' => h' = h ∧ drC P n ops anc K rem (putF n fr o.dst v) h (fun A g => C A g ∧ (A.contains i = true ∨ opA P (evalA fr) o.op g = some (.val v g)))) .mk)
      (drC P n ops anc K rem (putF n fr o.dst sk) h C) .mk .mk
theorem still_mono {fr₀ : Fr} {A A' : List Nat} {g : Hp} (hA : ∀ i, A.contains i = true → A'.contains i = true) : ∀ (done : List Past), stillAll P n ops fr₀ A g done → stillAll P n ops fr₀ A' g done := by
  intro done
  induction done with
  | nil => intro _; trivial
  | cons p done ih => intro h; exact ⟨h.1.imp (hA _) id, ih h.2⟩
/-- the table of what each operation waits for -/
def ancOk (ops : Array Oper) (anc : List (List Nat)) : Bool := (List.range ops.size).all fun i => (anc.getD i []).all fun j => (ancs ops ops.size i).contains j
theorem ancOk_spec {anc : List (List Nat)} (h : ancOk ops anc = true) {i : Nat} (hi : i < ops.size) (j : Nat) (hj : (anc.getD i []).contains j = true) : (ancs ops ops.size i).contains j = true := by
  have := List.all_eq_true.1 h i (List.mem_range.2 hi)
  exact List.all_eq_true.1 this j (by simpa using hj)
theorem drC_can {anc : List (List Nat)} (hanc : ancOk ops anc = true) {fr₀ : Fr} : ∀ (rem : List Nat) (done : List Past) (h : Hp) (C : List Nat → Hp → Prop), (∀ A g, C A g → stillAll P n ops fr₀ A g done) → drC P n ops anc K rem (FS n ops fr₀ done) h C → Can P n ops fr₀ K rem done h := by
  intro rem
  induction rem with
  | nil => intro done h C hC hd; exact hd
  | cons i rem ih =>
    intro done h C hC hd
    simp only [drC] at hd
    simp only [Can]
    cases ho : ops[i]? with
    | none => rw [ho] at hd; exact hd
    | some o =>
      rw [ho] at hd
      simp only at hd ⊢
      have hput : ∀ v k, putF n (FS n ops fr₀ done) o.dst v = FS n ops fr₀ (⟨i, v, k⟩ :: done) := by intro v k; simp [FS, dstOf, ho]
      cases hw : wantA ops o (FS n ops fr₀ done) with
      | none => rw [hw] at hd; exact hd
      | some t =>
        rw [hw] at hd
        cases t
        · refine ⟨fun _ => ?_, fun h => by simp at h⟩
          rw [wanted_false, hput sk .skip] at hd
          exact ih _ h C (fun A g hg => ⟨.inr trivial, hC A g hg⟩) hd
        · refine ⟨fun h => by simp at h, fun _ => ?_⟩
          rw [wanted_true] at hd
          have quiet : cls o.op ≠ 2 → newA P (evalA (FS n ops fr₀ done)) o.op = none → (∃ v C', opA P (evalA (FS n ops fr₀ done)) o.op h = some (.val v h) ∧ (∀ A g, C' A g → C A g ∧ (A.contains i = true ∨ opA P (evalA (FS n ops fr₀ done)) o.op g = some (.val v g))) ∧ drC P n ops anc K rem (putF n (FS n ops fr₀ done) o.dst v) h C') →
              (if isEff o.op = true then
                match opA P (evalA (FS n ops fr₀ done)) o.op h with
                | none => False
                | some (.val v h') => stillAll P n ops fr₀ (ancs ops ops.size i) h' done ∧ Can P n ops fr₀ K rem (⟨i, v, .eff⟩ :: done) h'
                | some (.enter f args) => EvA P f args (fun r h' => stillAll P n ops fr₀ (ancs ops ops.size i) h' done ∧ Can P n ops fr₀ K rem (⟨i, r, .eff⟩ :: done) h') h
                | some (.round b args) => RoundA P b args (fun r h' => stillAll P n ops fr₀ (ancs ops ops.size i) h' done ∧ Can P n ops fr₀ K rem (⟨i, r, .eff⟩ :: done) h') h
              else
                match newA P (evalA (FS n ops fr₀ done)) o.op with
                | some (B, f) => stillAll P n ops fr₀ [] (h ++ [B]) done ∧ Can P n ops fr₀ K rem (⟨i, f h.length, .made B h.length⟩ :: done) (h ++ [B])
                | none =>
                  match opA P (evalA (FS n ops fr₀ done)) o.op h with
                  | some (.val v h') => h' = h ∧ Can P n ops fr₀ K rem (⟨i, v, .quiet⟩ :: done) h
                  | _ => False) := by
            rintro h2 h3 ⟨v, C', e1, e2, e3⟩
            rw [if_neg (by rw [cls_eff h2]; simp), h3]
            simp only [e1]
            rw [hput v .quiet] at e3
            refine ⟨trivial, ih _ h C' (fun A g hg => ⟨(e2 A g hg).2.imp id fun h' => ⟨o, ho, h'⟩, hC A g (e2 A g hg).1⟩) e3⟩
          have look : ∀ C' : Value → List Nat → Hp → Prop, seen (opA P (evalA (FS n ops fr₀ done)) o.op h) (fun v h' => h' = h ∧ drC P n ops anc K rem (putF n (FS n ops fr₀ done) o.dst v) h (C' v)) .mk →
              ∃ v, opA P (evalA (FS n ops fr₀ done)) o.op h = some (.val v h) ∧ drC P n ops anc K rem (putF n (FS n ops fr₀ done) o.dst v) h (C' v) := by
            intro C' hd
            unfold seen at hd
            split at hd
            · rename_i v h' hop; obtain ⟨rfl, hd⟩ := hd; exact ⟨v, hop, hd⟩
            · exact hd.elim
          split at hd
          · rename_i hc
            obtain ⟨v, e1, e2⟩ := look (fun _ => C) hd
            exact quiet (by omega) (cls_new (by omega) _) ⟨v, C, e1, fun A g hg => ⟨hg, .inr (cls_pure hc e1)⟩, e2⟩
          · rename_i hc
            obtain ⟨v, e1, e2⟩ := look (fun v => fun A g => C A g ∧ (A.contains i = true ∨ opA P (evalA (FS n ops fr₀ done)) o.op g = some (.val v g))) hd
            exact quiet (by omega) (cls_new (by omega) _) ⟨v, _, e1, fun A g hg => hg, e2⟩
          · rename_i hc
            obtain ⟨he, hd⟩ := hd
            rw [if_pos he]
            have hil : i < ops.size := (Array.getElem?_eq_some_iff.1 ho).1
            have hst : ∀ g, C (anc.getD i []) g → stillAll P n ops fr₀ (ancs ops ops.size i) g done := fun g hg => still_mono (fun j hj => ancOk_spec hanc hil j hj) done (hC _ g hg)
            cases hop : opA P (evalA (FS n ops fr₀ done)) o.op h with
            | none => rw [hop] at hd; exact hd.elim
            | some r =>
              rw [hop] at hd
              cases r with
              | val v h' =>
                obtain ⟨h1, h2⟩ := hd
                rw [hput v .eff] at h2
                exact ⟨hst _ h1, ih _ h' C (fun A g hg => ⟨.inr trivial, hC A g hg⟩) h2⟩
              | enter f args =>
                refine EvA.mono hd ?_
                rintro r h' ⟨h1, h2⟩
                rw [hput r .eff] at h2
                exact ⟨hst _ h1, ih _ h' C (fun A g hg => ⟨.inr trivial, hC A g hg⟩) h2⟩
              | round b args =>
                refine RoundA.mono hd ?_
                rintro r h' ⟨h1, h2⟩
                rw [hput r .eff] at h2
                exact ⟨hst _ h1, ih _ h' C (fun A g hg => ⟨.inr trivial, hC A g hg⟩) h2⟩
          · rename_i hc0 hc1 hc2
            split at hd
            · rename_i B f hnew
              obtain ⟨h1, h2⟩ := hd
              rw [if_neg (by rw [cls_eff hc2]; simp)]; try rw [hnew]
              rw [hput (f h.length) (.made B h.length)] at h2
              exact ⟨hC _ _ h1, ih _ _ _ (fun A g hg => ⟨hg.2, hC A g hg.1⟩) h2⟩
            · rename_i hnew
              obtain ⟨v, e1, e2⟩ := look (fun v => fun A g => C A g ∧ (A.contains i = true ∨ opA P (evalA (FS n ops fr₀ done)) o.op g = some (.val v g))) hd
              first
                | exact quiet hc2 hnew ⟨v, _, e1, fun A g hg => hg, e2⟩
                | (have hq := quiet hc2 hnew ⟨v, _, e1, fun A g hg => hg, e2⟩
                   rw [hnew] at hq
                   exact hq)
/-- a statement whose order is drawn -/
theorem WpA.drawnA {id : Nat} {Q : QA} {fr : Fr} {h : Hp} (c : List Nat) (anc : List (List Nat)) (hm : P.follows .mixedOrders = true) (hpl : planOk n ops c = true) (hanc : ancOk ops anc = true) (hc : drC P n ops anc (normK Q) c fr h (fun _ _ => True)) : WpA P n (.region id ops true) Q fr h :=
  WpA.draw c hm hpl (drC_can hanc c [] h (fun _ _ => True) (fun _ _ _ => trivial) hc)
theorem ancOk_nil (ops : Array Oper) : ancOk ops [] = true := by simp [ancOk]
theorem WpA.drawn {id : Nat} {Q : QA} {fr : Fr} {h : Hp} (c : List Nat) (hm : P.follows .mixedOrders = true) (hpl : planOk n ops c = true) (hc : drC P n ops [] (normK Q) c fr h (fun _ _ => True)) : WpA P n (.region id ops true) Q fr h :=
  WpA.drawnA c [] hm hpl (ancOk_nil ops) hc

/-! words -/
def drN (P : Program) (n : Nat) (ops : Array Oper) (anc : List (List Nat)) (K : Fr → Hp → Prop) (r : Option (Blk × (Nat → Value))) (i : Nat) (dst : Option Tmp) (op : Op) (rem : List Nat) (fr : Fr) (h : Hp) (C : List Nat → Hp → Prop) (_ : Lazy (ops, K, op, rem, fr, h, C)) : Prop :=
  match r with
  | some (B, f) => C [] (h ++ [B]) ∧ drC P n ops anc K rem (putF n fr dst (f h.length)) (h ++ [B]) (fun A g => C A g ∧ (A.contains i = true ∨ g[h.length]? = some B))
  | none => seen (opA P (evalA fr) op h) (fun v h' => h' = h ∧ drC P n ops anc K rem (putF n fr dst v) h (fun A g => C A g ∧ (A.contains i = true ∨ opA P (evalA fr) op g = some (.val v g)))) .mk
def drU (P : Program) (n : Nat) (ops : Array Oper) (anc : List (List Nat)) (K : Fr → Hp → Prop) (c : Nat) (i : Nat) (dst : Option Tmp) (op : Op) (rem : List Nat) (fr : Fr) (h : Hp) (C : List Nat → Hp → Prop) (_ : Lazy (ops, K, op, rem, fr, h, C)) : Prop :=
  match c with
  | 0 => seen (opA P (evalA fr) op h) (fun v h' => h' = h ∧ drC P n ops anc K rem (putF n fr dst v) h C) .mk
  | 1 => seen (opA P (evalA fr) op h) (fun v h' => h' = h ∧ drC P n ops anc K rem (putF n fr dst v) h (fun A g => C A g ∧ (A.contains i = true ∨ opA P (evalA fr) op g = some (.val v g)))) .mk
  | 2 => isEff op = true ∧ after P h (opA P (evalA fr) op h) (fun v h' => C (anc.getD i []) h' ∧ drC P n ops anc K rem (putF n fr dst v) h' C) .mk
  | _ => drN P n ops anc K (newA P (evalA fr) op) i dst op rem fr h C .mk
def drO (P : Program) (n : Nat) (ops : Array Oper) (anc : List (List Nat)) (K : Fr → Hp → Prop) (o : Option Oper) (i : Nat) (rem : List Nat) (fr : Fr) (h : Hp) (C : List Nat → Hp → Prop) (_ : Lazy (ops, K, rem, fr, h, C)) : Prop :=
  match o with
  | none => False
  | some o => wanted (wantA ops o fr) (drU P n ops anc K (cls o.op) i o.dst o.op rem fr h C .mk) (drC P n ops anc K rem (putF n fr o.dst sk) h C) .mk .mk
variable {rem : List Nat} {fr : Fr} {h : Hp} {C : List Nat → Hp → Prop} {anc : List (List Nat)} {i : Nat}
@[simp ↓] theorem drC_nil : drC P n ops anc K [] fr h C = K fr h := Eq.trans rfl rfl
@[simp ↓] theorem drC_cons (i : Nat) : drC P n ops anc K (i :: rem) fr h C = drO P n ops anc K (ops[i]?) i rem fr h C .mk := by
  simp only [drC, drO]
  cases ops[i]? with
  | none => rfl
  | some o =>
    simp only
    congr 1
@[simp] theorem drO_some (dst : Option Tmp) (op : Op) (ty : TypeId) (pos : String) (aft : Array Edge) (d : Lazy (ops, K, rem, fr, h, C)) :
    drO P n ops anc K (some ⟨dst, op, ty, pos, aft, none⟩) i rem fr h C d = drU P n ops anc K (cls op) i dst op rem fr h C .mk := Eq.trans rfl rfl
@[simp] theorem drO_guard (dst : Option Tmp) (op : Op) (ty : TypeId) (pos : String) (aft : Array Edge) (g : Nat × Bool) (d : Lazy (ops, K, rem, fr, h, C)) :
    drO P n ops anc K (some ⟨dst, op, ty, pos, aft, some g⟩) i rem fr h C d = wanted (wantA ops ⟨dst, op, ty, pos, aft, some g⟩ fr) (drU P n ops anc K (cls op) i dst op rem fr h C .mk) (drC P n ops anc K rem (putF n fr dst sk) h C) .mk .mk := Eq.trans rfl rfl
section
variable (dst : Option Tmp) (op : Op) (d : Lazy (ops, K, op, rem, fr, h, C))
@[simp] theorem drU_0 : drU P n ops anc K 0 i dst op rem fr h C d = seen (opA P (evalA fr) op h) (fun v h' => h' = h ∧ drC P n ops anc K rem (putF n fr dst v) h C) .mk := Eq.trans rfl rfl
@[simp] theorem drU_1 : drU P n ops anc K 1 i dst op rem fr h C d = seen (opA P (evalA fr) op h) (fun v h' => h' = h ∧ drC P n ops anc K rem (putF n fr dst v) h (fun A g => C A g ∧ (A.contains i = true ∨ opA P (evalA fr) op g = some (.val v g)))) .mk := Eq.trans rfl rfl
@[simp] theorem drU_2 : drU P n ops anc K 2 i dst op rem fr h C d = (isEff op = true ∧ after P h (opA P (evalA fr) op h) (fun v h' => C (anc.getD i []) h' ∧ drC P n ops anc K rem (putF n fr dst v) h' C) .mk) := Eq.trans rfl rfl
@[simp] theorem drU_3 : drU P n ops anc K 3 i dst op rem fr h C d = drN P n ops anc K (newA P (evalA fr) op) i dst op rem fr h C .mk := Eq.trans rfl rfl
@[simp] theorem drN_some (B : Blk) (f : Nat → Value) : drN P n ops anc K (some (B, f)) i dst op rem fr h C d = (C [] (h ++ [B]) ∧ drC P n ops anc K rem (putF n fr dst (f h.length)) (h ++ [B]) (fun A g => C A g ∧ (A.contains i = true ∨ g[h.length]? = some B))) := Eq.trans rfl rfl
@[simp] theorem drN_none : drN P n ops anc K none i dst op rem fr h C d = seen (opA P (evalA fr) op h) (fun v h' => h' = h ∧ drC P n ops anc K rem (putF n fr dst v) h (fun A g => C A g ∧ (A.contains i = true ∨ opA P (evalA fr) op g = some (.val v g)))) .mk := Eq.trans rfl rfl
end
attribute [simp] cls isEff
variable {ρ : Operand → Value}
@[simp ↓] theorem newA_alloc (t : TypeId) : newA P ρ (.alloc t) = (zeroT P t).map fun cs => (.cells cs false none, fun i => .pointer (some ⟨i, 0, none⟩)) := Eq.trans rfl rfl
@[simp ↓] theorem newA_box (t : TypeId) (x : Operand) : newA P ρ (.box t x) = (cellsOf (ρ x)).map fun cs => (.cells cs false none, fun i => .pointer (some ⟨i, 0, none⟩)) := Eq.trans rfl rfl
@[simp] theorem newA_conv (s d : TypeId) (x : Operand) (k : IntKind) (hs : P.underlying s = some (.int k)) : newA P ρ (.convert s d x) = none := by simp [newA, hs]
@[simp] theorem fieldAddr_ptr {t : TypeId} {fs : Array Field} {b o f : Nat} (ht : P.underlying t = some (.struct fs)) :
    fieldAddrA P t (.pointer (some ⟨b, o, none⟩)) f = (fs[f]?).bind fun fd => (sizeT P fd.type).bind fun z => if z = 0 then none else some (.pointer (some ⟨b, o + fd.offset, none⟩)) := by
  simp only [fieldAddrA, ht]
  cases fs[f]? with
  | none => rfl
  | some fd =>
    simp only [Option.bind_some]
    cases sizeT P fd.type with
    | none => rfl
    | some z => cases z <;> simp
@[simp] theorem build_struct {t : TypeId} {fs : Array Field} {zero : List Value} {parts : List (Nat × Value)} (ht : P.underlying t = some (.struct fs)) (hz : zeroT P t = some zero) :
    buildA P t parts = (placesA P fs.toList).bind fun places => (fillA (places[·]?) zero parts).map fun cs => .agg cs.toArray := by
  simp only [buildA, ht, hz]
  cases placesA P fs.toList <;> rfl
@[simp] theorem places_nil : placesA P [] = some [] := Eq.trans rfl rfl
@[simp] theorem places_cons (f : Field) (fs : List Field) : placesA P (f :: fs) = (sizeT P f.type).bind fun z => (placesA P fs).map fun l => (f.offset, z) :: l := by
  simp only [placesA]
  cases sizeT P f.type <;> cases placesA P fs <;> rfl
@[simp] theorem fill_nil (place : Nat → Option (Nat × Nat)) (cs : List Value) : fillA place cs [] = some cs := Eq.trans rfl rfl
@[simp] theorem fill_cons (place : Nat → Option (Nat × Nat)) (cs : List Value) (i : Nat) (v : Value) (rest : List (Nat × Value)) :
    fillA place cs ((i, v) :: rest) = (place i).bind fun p => (cellsOf v).bind fun xs => if xs.length = p.2 ∧ p.1 + xs.length ≤ cs.length then fillA place (spl cs p.1 xs) rest else none := by
  simp only [fillA]
  cases place i with
  | none => rfl
  | some p => cases cellsOf v <;> rfl
@[simp] theorem buildSlice_of {t e : TypeId} {len z : Nat} {zero : List Value} {parts : List (Nat × Value)} {h : Hp} (ht : P.underlying t = some (.slice e)) (hs : sizeT P e = some z) (hz : zeroT P e = some zero) :
    buildSliceA P t len parts h = if len * z ≤ 16777216 ∧ zero.length = z ∧ len < capO then (fillA (fun i => some (i * z, z)) (zeros zero len) parts).map (fun cs => (.slice (some ⟨h.length, 0, none⟩) len len, h ++ [.cells cs false none])) else none := by
  simp only [buildSliceA, ht, hs, hz]
  split
  · cases fillA (fun i => some (i * z, z)) (zeros zero len) parts <;> rfl
  · rfl
@[simp] theorem makeSlice_of {t e : TypeId} {sz by_ zs : Nat} {zero : List Value} {kl kc : IntKind} {l c : Int} {h : Hp} (ht : P.underlying t = some (.slice e)) (hi : infoT P e = some (sz, by_, zs)) (hz : zeroT P e = some zero) :
    makeSliceA P t (.int kl l) (.int kc c) h = if 0 ≤ l ∧ l ≤ c ∧ by_ * c ≤ 281474976710656 ∧ zero.length = sz ∧ c < 4611686018427387904 then some (.slice (some ⟨h.length, 0, none⟩) l.toNat c.toNat, h ++ [.cells (zeros zero c.toNat) false none]) else none := by
  simp only [makeSliceA, ht, hi, hz]
def newBS (r : Option (Value × Hp)) (n : Nat) : Option (Blk × (Nat → Value)) :=
  match r with
  | some (_, [B]) => some (B, fun i => .slice (some ⟨i, 0, none⟩) n n)
  | _ => none
@[simp] theorem newBS_some (v : Value) (B : Blk) (n : Nat) : newBS (some (v, [B])) n = some (B, fun i => .slice (some ⟨i, 0, none⟩) n n) := Eq.trans rfl rfl
@[simp ↓] theorem newA_bs (t : TypeId) (k : Nat) (parts : Array (Nat × Operand)) : newA P ρ (.buildSlice t k parts) = newBS (buildSliceA P t k (parts.toList.map fun p => (p.1, ρ p.2)) []) k := by
  rw [newA]
  generalize buildSliceA P t k (parts.toList.map fun p => (p.1, ρ p.2)) [] = r
  rcases r with _ | ⟨v, _ | ⟨B, _ | ⟨C, l⟩⟩⟩ <;> rfl
@[simp] theorem newA_conv2 (s d e : TypeId) (x : Operand) (hs : P.underlying s = some (.slice e)) : newA P ρ (.convert s d x) = none := by simp [newA, hs]
end
end Go.Ab
