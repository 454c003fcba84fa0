/- The operations of a statement, on abstract values and blocks, and that the model's operations do the same; statements, loops, calls; no condition. -/
import Derived.Test.YtojdhmkjegkfkaaAb7
import Derived.TacticsIn
import Derived.LoopNIn
import Derived.OrdersIn
import Derived.RangeFuncRecord
namespace Go.Ab
open Go.RowKit

inductive Res where
  | val (v : Value) (h : Hp)
  | enter (f : FuncId) (args : List Value)
  | round (b : Nat) (args : List Value)
def rv (h : Hp) (r : Option Value) : Option Res := r.map fun v => .val v h
def rp (r : Option (Value × Hp)) : Option Res := r.map fun p => .val p.1 p.2
def ru (r : Option Hp) : Option Res := r.map fun h => .val any h

def callable (P : Program) (f : FuncId) : Bool :=
  match P.funcs[f]? with
  | some fn => fn.name != "runtime.NumGoroutine" && fn.body.isSome
  | none => false

def builtinA (P : Program) (b : Builtin) (ts : List TypeId) (xs : List Value) (h : Hp) : Option Res :=
  match b, ts, xs with
  | .append, [t, tx], [s, x] => rp (appendA P t tx s x h)
  | .copy, [t, _], [d, x] => rp (copyA P t d x h)
  | .len, [t], [x] => rv h (lenA P t x h)
  | .clear, [t], [x] => ru (clearA P t x h)
  | .cap, [t], [x] => rv h (capA P t x)
  | .delete, [t, _], [m, k] => ru (deleteA P t m k h)
  | .max, _, xs => rv h (mmA true xs)
  | .min, _, xs => rv h (mmA false xs)
  | _, _, _ => none
def nilCheckA : Value → Option Value
  | .pointer (some a) => some (.pointer (some a))
  | .func (.func f) a c => some (.func (.func f) a c)
  | .func (.yield l) a c => some (.func (.yield l) a c)
  | .iface t v => some (.iface t v)
  | .map m => some (.map m)
  | .slice a n c => some (.slice a n c)
  | _ => none
def ifaceA (P : Program) (t : TypeId) (x : Value) : Option Value :=
  match P.underlying t with
  | some (.interface _) => none
  | some _ => some (.iface t x)
  | none => none
def extractA (x : Value) (i : Nat) : Option Value :=
  match x with
  | .tuple vs => vs[i]?
  | _ => none
def pickA (c a b : Value) : Option Value :=
  match c with
  | .bool t => some (if t then a else b)
  | _ => none
def callA (P : Program) (ρ : Operand → Value) (c : Call) (h : Hp) : Option Res :=
  match c.callee with
  | .builtin b => builtinA P b c.argTypes.toList (c.args.toList.map ρ) h
  | .value f =>
    match ρ f with
    | .func (.func g) first captured => some (.enter g (first.toList ++ c.args.toList.map ρ ++ captured.toList))
    | .func (.yield b) _ _ => some (.round b (c.args.toList.map ρ))
    | _ => none
  | _ => none
def opA (P : Program) (ρ : Operand → Value) (o : Op) (h : Hp) : Option Res :=
  match o with
  | .move x | .assign x => some (.val (ρ x) h)
  | .pick c a b => rv h (pickA (ρ c) (ρ a) (ρ b))
  | .alloc t => rp (allocA P t h)
  | .box _ x => rp (boxA (ρ x) h)
  | .build t parts => rv h (buildA P t (parts.toList.map fun p => (p.1, ρ p.2)))
  | .buildSlice t n parts => rp (buildSliceA P t n (parts.toList.map fun p => (p.1, ρ p.2)) h)
  | .load t a => rv h (loadA P t (ρ a) h)
  | .store t a x => ru (storeA P t (ρ a) (ρ x) h)
  | .nilCheck x => rv h (nilCheckA (ρ x))
  | .binOp op t x y _ => rv h (binA P op t x y (ρ x) (ρ y))
  | .unOp op _ x => rv h (unA op (ρ x))
  | .convert s d x => rp (convA P s d (ρ x) h)
  | .makeInterface t x => rv h (ifaceA P t (ρ x))
  | .makeFunc (.func f) first captured => some (.val (.func (.func f) (first.map ρ) (captured.map ρ)) h)
  | .makeMap _ none => some (.val (.map (some h.length)) (h ++ [.map []]))
  | .makeSlice t l c => rp (makeSliceA P t (ρ l) (ρ c) h)
  | .slice t x lo hi mx => rv h (sliceA P t (ρ x) (lo.map ρ) (hi.map ρ) (mx.map ρ) h)
  | .fieldAddr t x f => rv h (fieldAddrA P t (ρ x) f)
  | .field t x f => rv h (fieldA P t (ρ x) f)
  | .indexAddr t x i => rv h (indexAddrA P t (ρ x) (ρ i))
  | .index t x i => rv h (indexA P t (ρ x) (ρ i))
  | .lookup t m k ok => rv h (lookupA P t (ρ m) (ρ k) ok h)
  | .mapUpdate t m k x | .insert t m k x => ru (mapUpdateA P t (ρ m) (ρ k) (ρ x) h)
  | .range t x => rp (rangeA P t (ρ x) h)
  | .next it s => rp (nextA (ρ it) s h)
  | .extract t i => rv h (extractA (ρ t) i)
  | .typeAssert x _ t ok => rv h (typeAssertA P (ρ x) t ok)
  | .call c => callA P ρ c h
  | _ => none

section
variable {P : Program} {μ : Emb} {h : Hp} {w : World}

/-- what an operation of the model does, held against a result -/
def Did (P : Program) (μ : Emb) (h : Hp) (w : World) (s : Sem Next) : Res → Prop
  | .val v h' => ∃ μ' v' w', (s.run P w = .ok (.value v') w' ∨ (s.run P w = .ok .skip w' ∧ v' = undef)) ∧ VRel μ' v v' ∧ Step μ h w μ' h' w'
  | .enter f args => callable P f = true → ∃ vs : Array Value, s.run P w = .ok (.enter f vs) w ∧ LRel μ args vs.toList
  | .round b args => ∃ (e : Place) (vs : Array Value), μ b = some e ∧ LRel μ args vs.toList ∧ ∀ r : Loop, w.heap[e.block]? = some (.loop r) → vs.size = r.params.size →
      s.run P w = .ok (.round e.block r.fn ((r.params.zip vs).foldl (fun tmps (t, a) => tmps.setIfInBounds t a) r.tmps) r.assign r.body) w

theorem Did.rp {s : Sem Value} {r : Option (Value × Hp)} {res : Res} (hA : rp r = some res) (h1 : ∀ v h', r = some (v, h') → Ran P μ h w s v h') : Did P μ h w (do Pure.pure (Next.value (← s))) res := by
  unfold Ab.rp at hA
  obtain ⟨⟨v, h'⟩, hr, rfl⟩ := Option.map_eq_some_iff.1 hA
  obtain ⟨μ', v', w', e1, e2, e3⟩ := h1 v h' hr
  exact ⟨μ', v', w', .inl (by simp [e1]), e2, e3⟩
theorem Did.rv (hr : HRel μ h w) {s : Sem Value} {r : Option Value} {res : Res} (hA : rv h r = some res) (h1 : ∀ v, r = some v → ∃ v', s.run P w = .ok v' w ∧ VRel μ v v') : Did P μ h w (do Pure.pure (Next.value (← s))) res := by
  unfold Ab.rv at hA
  obtain ⟨v, hr', rfl⟩ := Option.map_eq_some_iff.1 hA
  obtain ⟨v', e1, e2⟩ := h1 v hr'
  exact ⟨μ, v', w, .inl (by simp [e1]), e2, Step.refl hr⟩
theorem Did.ru {s : Sem Unit} {r : Option Hp} {res : Res} (hA : ru r = some res) (h1 : ∀ h', r = some h' → RanU P μ h w s h') : Did P μ h w (do s; Pure.pure Next.skip) res := by
  unfold Ab.ru at hA
  obtain ⟨h', hr, rfl⟩ := Option.map_eq_some_iff.1 hA
  obtain ⟨μ', w', e1, e2⟩ := h1 h' hr
  exact ⟨μ', undef, w', .inr ⟨by simp [e1], rfl⟩, .any _, e2⟩

theorem LRel.map_eval {n : Nat} {fr : Fr} {a : Act} (hf : FRel μ n fr a.tmps) (xs : Array Operand) : LRel μ (xs.toList.map (evalA fr)) (xs.map a.eval).toList := by
  refine ⟨by simp, ?_⟩
  intro i x y hx hy
  rw [List.getElem?_map] at hx
  rw [Array.toList_map, List.getElem?_map] at hy
  obtain ⟨p, hp, rfl⟩ := Option.map_eq_some_iff.1 hx
  obtain ⟨q, hq, rfl⟩ := Option.map_eq_some_iff.1 hy
  have := Option.some.inj (hp.symm.trans hq)
  subst this
  exact VRel.eval hf p
theorem PRel.map_eval {n : Nat} {fr : Fr} {a : Act} (hf : FRel μ n fr a.tmps) (xs : Array (Nat × Operand)) : PRel μ (xs.toList.map fun p => (p.1, evalA fr p.2)) (xs.map fun p => (p.1, a.eval p.2)).toList := by
  refine ⟨by simp, ?_⟩
  intro i x y hx hy
  rw [List.getElem?_map] at hx
  rw [Array.toList_map, List.getElem?_map] at hy
  obtain ⟨p, hp, rfl⟩ := Option.map_eq_some_iff.1 hx
  obtain ⟨q, hq, rfl⟩ := Option.map_eq_some_iff.1 hy
  have := Option.some.inj (hp.symm.trans hq)
  subst this
  exact ⟨rfl, VRel.eval hf p.2⟩
theorem ORelV.map_eval {n : Nat} {fr : Fr} {a : Act} (hf : FRel μ n fr a.tmps) (x : Option Operand) : ORelV μ (x.map (evalA fr)) (x.map a.eval) := by
  cases x with
  | none => trivial
  | some x => exact VRel.eval hf x

theorem builtinA_ok (hr : HRel μ h w) {b : Builtin} {ts : Array TypeId} {ty : TypeId} {cs : Array Bool} {xs : List Value} {xs' : Array Value} {res : Res} (hx : LRel μ xs xs'.toList)
    (hA : builtinA P b ts.toList xs h = some res) : Did P μ h w (builtin b ts ty cs xs') res := by
  unfold builtinA at hA
  obtain ⟨ts⟩ := ts
  obtain ⟨xs'⟩ := xs'
  simp only at hA hx
  split at hA
  · obtain ⟨y, ys, rfl, h1, h2⟩ := LRel.cons_inv hx
    obtain ⟨z, zs, rfl, h3, h4⟩ := LRel.cons_inv h2
    rw [LRel.nil_inv h4]
    exact Did.rp hA fun v h' e => appendA_ok hr h1 h3 e
  · obtain ⟨y, ys, rfl, h1, h2⟩ := LRel.cons_inv hx
    obtain ⟨z, zs, rfl, h3, h4⟩ := LRel.cons_inv h2
    rw [LRel.nil_inv h4]
    exact Did.rp hA fun v h' e => copyA_ok hr h1 h3 e
  · obtain ⟨y, ys, rfl, h1, h2⟩ := LRel.cons_inv hx
    rw [LRel.nil_inv h2]
    exact Did.rv hr hA fun v e => ⟨v, lenA_ok hr h1 e⟩
  · obtain ⟨y, ys, rfl, h1, h2⟩ := LRel.cons_inv hx
    rw [LRel.nil_inv h2]
    unfold ru at hA
    obtain ⟨h', hr', rfl⟩ := Option.map_eq_some_iff.1 hA
    obtain ⟨μ', v', w', e1, e2, e3⟩ := clearA_ok (P := P) (ty := ty) hr h1 hr'
    exact ⟨μ', v', w', .inl (by simp [builtin, e1]), e2, e3⟩
  · obtain ⟨y, ys, rfl, h1, h2⟩ := LRel.cons_inv hx
    rw [LRel.nil_inv h2]
    exact Did.rv hr hA fun v e => ⟨v, capA_ok h1 e w⟩
  · rename_i t tk m k
    obtain ⟨y, ys, rfl, h1, h2⟩ := LRel.cons_inv hx
    obtain ⟨z, zs, rfl, h3, h4⟩ := LRel.cons_inv h2
    rw [LRel.nil_inv h4]
    unfold ru at hA
    obtain ⟨h', hr', rfl⟩ := Option.map_eq_some_iff.1 hA
    obtain ⟨μ', v', w', e1, e2, e3⟩ := deleteA_ok (P := P) (ty := ty) (tk := tk) hr h1 h3 hr'
    exact ⟨μ', v', w', .inl (by simp [builtin, e1]), e2, e3⟩
  · exact Did.rv hr hA fun v e => ⟨v, by have := mmA_ok (P := P) hx e ⟨ts⟩ ty w; simpa using this⟩
  · exact Did.rv hr hA fun v e => ⟨v, by have := mmA_ok (P := P) hx e ⟨ts⟩ ty w; simpa using this⟩
  · simp at hA

theorem opA_ok (hr : HRel μ h w) {n : Nat} {fr : Fr} {a : Act} (hf : FRel μ n fr a.tmps) {o : Oper} {res : Res} (hA : opA P (evalA fr) o.op h = some res) : Did P μ h w (execOp a.eval o) res := by
  obtain ⟨dst, op, ty, pos, after, guard⟩ := o
  have ev := fun x => VRel.eval (μ := μ) hf x
  unfold opA at hA
  simp only at hA
  unfold execOp
  simp only
  split at hA
  · simp at hA; subst hA; exact ⟨μ, _, w, .inl rfl, ev _, Step.refl hr⟩
  · simp at hA; subst hA; exact ⟨μ, _, w, .inl rfl, ev _, Step.refl hr⟩
  · rename_i c x y
    unfold rv at hA
    obtain ⟨v, hv, rfl⟩ := Option.map_eq_some_iff.1 hA
    have hc := ev c
    unfold pickA at hv
    split at hv
    · rename_i t ht
      rw [ht] at hc
      simp at hv; subst hv
      generalize hcv : a.eval c = cv at hc
      cases hc
      refine ⟨μ, if t then a.eval x else a.eval y, w, .inl ?_, ?_, Step.refl hr⟩
      · simp [asBool, hcv]
      · cases t
        · exact ev y
        · exact ev x
    · simp at hv
  · exact Did.rp hA fun v h' e => allocA_ok hr e
  · exact Did.rp hA fun v h' e => boxA_ok hr _ (ev _) e
  · exact Did.rv hr hA fun v e => buildA_ok (PRel.map_eval hf _) e w
  · exact Did.rp hA fun v h' e => buildSliceA_ok hr (PRel.map_eval hf _) e
  · exact Did.rv hr hA fun v e => loadA_ok hr (ev _) e
  · exact Did.ru hA fun h' e => storeA_ok hr (ev _) (ev _) e
  · rename_i x
    unfold rv at hA
    obtain ⟨v, hv, rfl⟩ := Option.map_eq_some_iff.1 hA
    have hc := ev x
    generalize evalA fr x = xa at hc hv
    generalize hxv : a.eval x = xv at hc
    refine ⟨μ, xv, w, .inl ?_, ?_, Step.refl hr⟩
    · cases hc <;> simp [nilCheckA] at hv <;> simp [hxv]
    · cases hc <;> simp [nilCheckA] at hv <;> subst hv <;> constructor <;> assumption
  · exact Did.rv hr hA fun v e => ⟨v, binA_ok (ev _) (ev _) e w⟩
  · exact Did.rv hr hA fun v e => ⟨v, unA_ok (ev _) e w⟩
  · exact Did.rp hA fun v h' e => convA_ok hr (ev _) e
  · rename_i t x
    refine Did.rv hr hA fun v e => ?_
    unfold ifaceA at e
    split at e
    · simp at e
    · rename_i d hne hu
      simp at e; subst e
      refine ⟨.iface t (a.eval x), ?_, .iface t (ev x)⟩
      simp only [Instr.makeInterface, Sem.run_bind, run_underlying hu, Result.andThen_ok]
      try (cases d <;> simp_all)
    · simp at e
  · rename_i f first captured
    simp at hA; subst hA
    refine ⟨μ, _, w, .inl (by simp [Instr.makeFunc]; rfl), ?_, Step.refl hr⟩
    have h1 := LRel.map_eval hf first
    have h2 := LRel.map_eval hf captured
    exact .func (by simp) (by simp) (fun i x y hx hy => h1.2 i x y (by rw [List.getElem?_map]; simpa using hx) (by rw [Array.getElem?_toList]; exact hy))
      (fun i x y hx hy => h2.2 i x y (by rw [List.getElem?_map]; simpa using hx) (by rw [Array.getElem?_toList]; exact hy))
  · simp at hA; subst hA
    obtain ⟨μ', v', w', e1, e2, e3⟩ := makeMapA_ok (P := P) hr ‹_›
    exact ⟨μ', v', w', .inl (by simp [e1]), e2, e3⟩
  · exact Did.rp hA fun v h' e => makeSliceA_ok hr (ev _) (ev _) e
  · exact Did.rv hr hA fun v e => sliceA_ok hr (ev _) (ORelV.map_eval hf _) (ORelV.map_eval hf _) (ORelV.map_eval hf _) e
  · exact Did.rv hr hA fun v e => fieldAddrA_ok (ev _) e w
  · exact Did.rv hr hA fun v e => fieldA_ok (ev _) e w
  · exact Did.rv hr hA fun v e => indexAddrA_ok (ev _) (ev _) e w
  · exact Did.rv hr hA fun v e => indexA_ok (ev _) (ev _) e w
  · exact Did.rv hr hA fun v e => lookupA_ok hr (ev _) (ev _) e
  · exact Did.ru hA fun h' e => mapUpdateA_ok hr (ev _) (ev _) (ev _) e
  · exact Did.ru hA fun h' e => mapUpdateA_ok hr (ev _) (ev _) (ev _) e
  · exact Did.rp hA fun v h' e => rangeA_ok hr (ev _) e
  · exact Did.rp hA fun v h' e => nextA_ok hr (ev _) _ e
  · rename_i t i
    refine Did.rv hr hA fun v e => ?_
    unfold extractA at e
    split at e
    · rename_i vs hvs
      have ht := ev t
      rw [hvs] at ht
      generalize htv : a.eval t = tv at ht
      cases ht with
      | any _ => simp at e
      | tup h1 h3 =>
        rename_i xs'
        have hi : i < xs'.size := by
          rw [← h1]
          rcases Nat.lt_or_ge i vs.size with h' | h'
          · exact h'
          · rw [Array.getElem?_eq_none h'] at e; simp at e
        exact ⟨xs'[i], by simp [htv, Instr.extract, hi], h3 i v _ e (by simp [hi])⟩
    · simp at e
  · exact Did.rv hr hA fun v e => typeAssertA_ok (ev _) e w
  · rename_i c
    obtain ⟨callee, args, ats⟩ := c
    unfold callA at hA
    simp only at hA
    split at hA
    · rename_i b
      simp only [resolve]
      simp only [pure_bind, invoke]
      exact builtinA_ok hr (LRel.map_eval hf args) hA
    · rename_i f
      split at hA
      · rename_i g first captured hfv
        have hc := ev f
        rw [hfv] at hc
        simp at hA; subst hA
        intro hcall
        simp only [resolve]
        generalize hfv' : a.eval f = fv at hc
        cases hc with
        | func h1 h2 h3 h4 =>
          rename_i xs' ys'
          unfold callable at hcall
          split at hcall
          · rename_i fn hfn
            simp at hcall
            obtain ⟨c1, c2⟩ := hcall
            obtain ⟨body, hbody⟩ := Option.isSome_iff_exists.1 c2
            refine ⟨xs' ++ args.map a.eval ++ ys', ?_, ?_⟩
            · simp [hfv', Deferred.ofValue, invoke, callFunc, hfn, c1, hbody]
            · have e1 : ARel μ first xs' := ARel.of h1 h3
              have e2 : ARel μ captured ys' := ARel.of h2 h4
              have := LRel.append (LRel.append e1 (LRel.map_eval hf args)) e2
              simpa using this
          · simp at hcall
      · rename_i b xs ys hfv
        have hc := ev f
        rw [hfv] at hc
        simp at hA; subst hA
        generalize hfv' : a.eval f = fv at hc
        cases hc with
        | yield hb =>
          rename_i e
          refine ⟨e, args.map a.eval, hb, ?_, ?_⟩
          · have := LRel.map_eval hf args
            simpa using this
          · intro r hr' hsz
            have hy := run_yield (P := P) (args := args.map a.eval) hr' hsz
            simp only [resolve]
            simp [hfv', Deferred.ofValue, invoke, hy]
      · simp at hA
    · simp at hA
  · simp at hA
/-- which operations are no 'defer' -/
theorem opA_defer {ρ : Operand → Value} {o : Oper} {res : Res} (hA : opA P ρ o.op h = some res) (c : Call) : o.op ≠ .defer c := by
  intro hc
  rw [hc] at hA
  simp [opA] at hA
end
end Go.Ab
