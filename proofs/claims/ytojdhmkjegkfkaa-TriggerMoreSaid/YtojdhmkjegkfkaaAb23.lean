/- The evaluator of closed calls over tree heaps, second part: statements and calls; no condition. -/
import Derived.Test.YtojdhmkjegkfkaaAb22
namespace Go.Ab
open Go.RowKit

inductive ResT where
  | val (v : Value) (e : Eff)
  | enter (f : FuncId) (args : List Value)
  | round (b : Nat) (args : List Value)
abbrev RunT := FT → HT → Option ResT
def vT (r : Option Value) : Option ResT := match r with
  | some v => some (.val v .none)
  | none => none
def pT (r : Option (Value × Eff)) : Option ResT := match r with
  | some (v, e) => some (.val v e)
  | none => none
def uT (r : Option Eff) : Option ResT := match r with
  | some e => some (.val any e)
  | none => none
noncomputable def pureT (P : Program) (o : Op) : RunT := fun fr _ => match opA P (evalA fr.get) o [] with
  | some (.val v _) => some (.val v .none)
  | _ => none
noncomputable def newT (P : Program) (o : Op) : RunT := fun fr h => match newA P (evalA fr.get) o with
  | some (B, f) => some (.val (f h.n) (.push B))
  | none => none
noncomputable def load1T (p : Value) (h : HT) : Option Value :=
  match p with
  | .pointer (some ⟨b, o, none⟩) => match h.get b with
    | some (.cells cs _ _) => lget cs o
    | _ => none
  | _ => none
noncomputable def ldT (P : Program) (t : TypeId) : Value → HT → Option Value := match aggT P t with
  | some false => load1T
  | _ => loadT P t
/-- one cell of a list, written -/
noncomputable def setL (x : Value) (l : List Value) : Nat → List Value :=
  List.rec (motive := fun _ => Nat → List Value) (fun _ => []) (fun y ys ih i => Nat.rec (motive := fun _ => List Value) (x :: ys) (fun j _ => y :: ih j) i) l
noncomputable def store1T (p x : Value) (h : HT) : Option Eff :=
  match p with
  | .pointer (some ⟨b, o, none⟩) => match h.get b with
    | some (.cells cs false op) => match oneA x with
      | true => bif Nat.ble (Nat.succ o) cs.length then some (Eff.set b (.cells (setL x cs o) false op)) else none
      | false => none
    | _ => none
  | _ => none
noncomputable def stT (P : Program) (t : TypeId) : Value → Value → HT → Option Eff := match aggT P t, sizeT P t with
  | some false, some 1 => store1T
  | _, _ => storeT P t
def topK (k : IntKind) : Nat := match k with
  | .i8 => 127 | .u8 => 255 | .i16 => 32767 | .u16 => 65535 | .i32 => 2147483647 | .u32 => 4294967295 | .i64 => 9223372036854775807 | .u64 => 18446744073709551615
def wrapT (k : IntKind) (n : Int) : Int :=
  match n with
  | .ofNat j => bif Nat.ble j (topK k) then .ofNat j else k.wrap (.ofNat j)
  | n => k.wrap n
noncomputable def binT (P : Program) (op : BinOp) (t : TypeId) (x y : Operand) : Option (Value → Value → Option Value) :=
  match op with
  | .add => some fun a b => arM (fun k n m => wrapT k (n + m)) (binA P .add t x y) a b
  | .sub => some fun a b => arM (fun k n m => wrapT k (n - m)) (binA P .sub t x y) a b
  | op => binM P op t x y
noncomputable def builtinT (P : Program) (b : Builtin) (ts : List TypeId) (xs : List Value) (h : HT) : Option ResT :=
  match b, ts, xs with
  | .append, [t, tx], [s, x] => pT (appendT P t tx s x h)
  | .copy, [t, _], [d, x] => pT (copyT P t d x h)
  | .len, [t], [x] => vT (lenT P t x h)
  | .clear, [t], [x] => uT (clearT P t x h)
  | .cap, [t], [x] => vT (capA P t x)
  | .delete, [t, _], [m, k] => uT (deleteT P t m k h)
  | .max, _, xs => vT (mmA true xs)
  | .min, _, xs => vT (mmA false xs)
  | _, _, _ => none
noncomputable def valT (f : Value) (xs : List Value) : Option ResT :=
  match f with
  | .func (.func g) first captured => some (.enter g (first.toList ++ xs ++ captured.toList))
  | .func (.yield b) _ _ => some (.round b xs)
  | _ => none
/-- how an operand is read -/
noncomputable def opdK {R : Type} (x : Operand) (k : (FT → Value) → R) : R := match x with
  | .tmp i => getK i k
  | .const v => tVal (gr v) fun v => k fun _ => v
  | x => k fun fr => evalA fr.get x
noncomputable def opdsK {R : Type} (l : List Operand) : ((FT → List Value) → R) → R :=
  List.rec (motive := fun _ => ((FT → List Value) → R) → R) (fun k => k fun _ => []) (fun x _ ih k => opdK x fun g => ih fun gs => k fun fr => g fr :: gs fr) l
noncomputable def opT {R : Type} (P : Program) (o : Op) (k : RunT → Option R) : Option R :=
  match o with
  | .load t a => opdK a fun a => k fun fr h => vT (ldT P t (a fr) h)
  | .binOp op t x y _ => match binT P op t x y with
    | some f => opdK x fun x => opdK y fun y => k fun fr _ => vT (f (x fr) (y fr))
    | none => none
  | .indexAddr t x i => match P.underlying t with
    | some (.slice e) => match sizeT P e with
      | some z => opdK x fun x => opdK i fun i => k fun fr _ => vT (idxM z (x fr) (i fr))
      | none => none
    | _ => opdK x fun x => opdK i fun i => k fun fr _ => vT (indexAddrA P t (x fr) (i fr))
  | .index t x i => match P.underlying t with
    | some .string => opdK x fun x => opdK i fun i => k fun fr _ => vT (idxS (x fr) (i fr))
    | _ => opdK x fun x => opdK i fun i => k fun fr _ => vT (indexA P t (x fr) (i fr))
  | .pick c a b => opdK c fun c => opdK a fun a => opdK b fun b => k fun fr _ => vT (pickA (c fr) (a fr) (b fr))
  | .store t a x => opdK a fun a => opdK x fun x => k fun fr h => uT (stT P t (a fr) (x fr) h)
  | .nilCheck x => opdK x fun x => k fun fr _ => vT (nilCheckA (x fr))
  | .unOp op _ x => opdK x fun x => k fun fr _ => vT (unA op (x fr))
  | .convert s d x => opdK x fun x => k fun fr h => pT (convT P s d (x fr) h)
  | .slice t x lo hi mx => opdK x fun x => k fun fr h => vT (sliceT P t (x fr) (lo.map (evalA fr.get)) (hi.map (evalA fr.get)) (mx.map (evalA fr.get)) h)
  | .fieldAddr t x f => opdK x fun x => k fun fr _ => vT (fieldAddrA P t (x fr) f)
  | .field t x f => opdK x fun x => k fun fr _ => vT (fieldA P t (x fr) f)
  | .extract t i => opdK t fun t => k fun fr _ => vT (extractA (t fr) i)
  | .lookup t m x ok => opdK m fun m => opdK x fun x => k fun fr h => vT (lookupT P t (m fr) (x fr) ok h)
  | .mapUpdate t m y x => opdK m fun m => opdK y fun y => opdK x fun x => k fun fr h => uT (mapUpdateT P t (m fr) (y fr) (x fr) h)
  | .insert t m y x => opdK m fun m => opdK y fun y => opdK x fun x => k fun fr h => uT (mapUpdateT P t (m fr) (y fr) (x fr) h)
  | .range t x => opdK x fun x => k fun fr h => pT (rangeT P t (x fr) h)
  | .next it s => opdK it fun it => k fun fr h => pT (nextT (it fr) s h)
  | .call ⟨.builtin b, args, ts⟩ => opdsK args.toList fun xs => k fun fr h => builtinT P b ts.toList (xs fr) h
  | .call ⟨.value f, args, _⟩ => opdK f fun f => opdsK args.toList fun xs => k fun fr _ => valT (f fr) (xs fr)
  | o => match cls o with
    | 0 => k (pureT P o)
    | 3 => k (newT P o)
    | _ => none
noncomputable def pW {R : Type} (n : Nat) (fr : FT) (d : Option Tmp) (v : Value) (k : FT → Option R) : Option R := match d with
  | none => k fr
  | some d => bif Nat.ble (Nat.succ d) n then fr.putK d v k else none

/-! ### statements -/
structure RecsT where
  call : FuncId → List Value → HT → Option (Value × HT)
  code : Nat → Code → FT → HT → Option (Exit × FT × HT)
noncomputable def loadU {R : Type} (n : Nat) (g : Nat → Value) (k : FT → Option R) (i : Nat) : FT → Option R :=
  Nat.rec (motive := fun _ => FT → Option R) k (fun i ih t => pW n t (some i) (g i) ih) i
noncomputable def psU {R : Type} (n : Nat) (k : FT → Option R) (l : List (Tmp × Value)) : FT → Option R :=
  List.rec (motive := fun _ => FT → Option R) k (fun p _ ih t => pW n t (some p.1) p.2 ih) l
/-- a round of a loop over a function -/
noncomputable def roundT (rec : RecsT) (b : Nat) (args : List Value) (h : HT) : Option (Value × HT) :=
  match h.get b with
  | some (.loop L) => match hasRF L.assign, hasRF L.body with
    | false, false =>
      bif Nat.beq args.length L.ps.size && Nat.ble L.n 512 then
        loadU L.n L.fr (psU L.n (fun t =>
          match rec.code L.n L.assign t h with
          | some (.normal, t, h1) => match h1.get b with
            | some (.loop L1) => match L1.st with
              | .ready => h1.put b (.loop (busyL L1)) fun h1 => match rec.code L.n L.body t h1 with
                | some (e, _, h2) => match h2.get b with
                  | some (.loop L2) => match e with
                    | .normal => h2.put b (.loop (readyL L2)) fun h => some (.bool true, h)
                    | .ret => h2.put b (.loop (doneL L2 .ret)) fun h => some (.bool false, h)
                    | .exit id => h2.put b (.loop (doneL L2 (.exit id))) fun h => some (.bool false, h)
                    | _ => none
                  | _ => none
                | none => none
              | _ => none
            | _ => none
          | _ => none) (L.ps.toList.zip args)) L.n .new
      else none
    | _, _ => none
  | _ => none
abbrev PutT := FT → Value → (FT → Option (FT × HT)) → Option (FT × HT)
inductive MOpT where
  | mov (p : PutT) (x : FT → Value)
  | movG (g : FT → Value) (want : Bool) (p : PutT) (x : FT → Value)
  | op (p : PutT) (run : RunT)
  | opG (g : FT → Value) (want : Bool) (p : PutT) (run : RunT)
noncomputable def putD {R : Type} (n : Nat) (d : Option Tmp) (k : PutT → Option R) : Option R := match d with
  | none => k fun fr _ k => k fr
  | some d => bif Nat.ble (Nat.succ d) n then putWK d k else none
noncomputable def actD (P : Program) (n : Nat) (o : Oper) (mv : PutT → (FT → Value) → MOpT) (op : PutT → RunT → MOpT) : Option MOpT := putD n o.dst fun p => match o.op with
  | .move x => opdK x fun x => some (mv p x)
  | .assign x => opdK x fun x => some (mv p x)
  | o => opT P o fun r => some (op p r)
noncomputable def compT (P : Program) (n : Nat) (ops : Array Oper) (o : Oper) : Option MOpT :=
  match o.guard with
  | none => actD P n o .mov .op
  | some (j, want) => match (ops[j]?).bind (·.dst) with
    | none => none
    | some d => getK d fun g => sBool want fun want => actD P n o (.movG g want) (.opG g want)
noncomputable def wantT {R : Type} (g : Value) (want : Bool) (yes no : Unit → Option R) : Option R := match g with
  | .bool b => match b with
    | true => match want with
      | true => yes ()
      | false => no ()
    | false => match want with
      | true => no ()
      | false => yes ()
  | .float .f32 0 => no ()
  | _ => none
noncomputable def tVF : Value → (Value → Option (FT × HT)) → Option (FT × HT) := Value.rec (motive_1 := fun _ => (Value → Option (FT × HT)) → Option (FT × HT)) (motive_2 := fun _ => Unit) (motive_3 := fun _ => Unit)
  (fun b k => Bool.rec (k (.bool false)) (k (.bool true)) b)
  (fun kd n k => Int.rec (fun n => sNat n fun n => k (.int kd (.ofNat n))) (fun n => sNat n fun n => k (.int kd (.negSucc n))) n)
  (fun k b kk => kk (.float k b))
  (fun k r i kk => kk (.complex k r i))
  (fun s kk => tVal (.string s) kk)
  (fun a k => Option.rec (k (.pointer none)) (fun ad => Addr.rec (fun b o s => sNat b fun b => sNat o fun o => k (.pointer (some ⟨b, o, s⟩))) ad) a)
  (fun a n c kk => tVal (.slice a n c) kk)
  (fun r kk => tVal (.map r) kk)
  (fun r kk => kk (.chan r))
  (fun f x y _ _ kk => kk (.func f x y))
  (fun  kk => kk (.nilFunc))
  (fun t v _ kk => kk (.iface t v))
  (fun  kk => kk (.nilIface))
  (fun c _ kk => tVal (.agg c) kk)
  (fun c _ kk => tVal (.tuple c) kk)
  (fun _ _ => ()) () (fun _ _ _ _ => ())
noncomputable def stepT (rec : RecsT) (p : PutT) (run : RunT) (ih : FT → HT → Option (FT × HT)) (fr : FT) (h : HT) : Option (FT × HT) :=
  match run fr h with
  | some (.val v e) => tVF v fun v => onT h e fun h => p fr v fun fr => ih fr h
  | some (.enter g args) => match rec.call g args h with
    | some (r, h) => p fr r fun fr => ih fr h
    | none => none
  | some (.round b args) => match roundT rec b args h with
    | some (r, h) => p fr r fun fr => ih fr h
    | none => none
  | none => none
noncomputable def doT (rec : RecsT) (m : MOpT) (ih : FT → HT → Option (FT × HT)) (fr : FT) (h : HT) : Option (FT × HT) :=
  match m with
  | .mov p x => p fr (x fr) fun fr => ih fr h
  | .movG g want p x => wantT (g fr) want (fun _ => p fr (x fr) fun fr => ih fr h) (fun _ => p fr sk fun fr => ih fr h)
  | .op p run => stepT rec p run ih fr h
  | .opG g want p run => wantT (g fr) want (fun _ => stepT rec p run ih fr h) (fun _ => p fr sk fun fr => ih fr h)
noncomputable def opsT (P : Program) (rec : RecsT) (n : Nat) (ops : Array Oper) (l : List Oper) : FT → HT → Option (FT × HT) :=
  List.rec (motive := fun _ => FT → HT → Option (FT × HT)) (fun fr h => some (fr, h)) (fun o _ ih fr h =>
    Option.rec (motive := fun _ => Option (FT × HT)) none (fun m => doT rec m ih fr h) (compT P n ops o)) l

/-! an order for a statement whose order is drawn -/
noncomputable def seesT (f : RunT) (fr : FT) (v : Value) (g : HT) : Bool :=
  match f fr g with
  | some (.val v' _) => vEq 5 v' v
  | _ => false
noncomputable def keptT (b : Nat) (B : Blk) (g : HT) : Bool :=
  match g.get b with
  | some B' => bEq B' B
  | none => false
noncomputable def lookT2 (f : RunT) (n : Nat) (i : Nat) (o : Oper) (ih : FT → HT → (List Nat → HT → Bool) → Option (FT × HT)) (fr : FT) (h : HT) (C : List Nat → HT → Bool) : Option (FT × HT) :=
  match f fr h with
  | some (.val v _) => tVal v fun v => pW n fr o.dst v fun fr' => ih fr' h (fun A g => C A g && (A.contains i || seesT f fr v g))
  | _ => none
noncomputable def actT (f : RunT) (rec : RecsT) (n : Nat) (ops : Array Oper) (i : Nat) (o : Oper) (ih : FT → HT → (List Nat → HT → Bool) → Option (FT × HT)) (fr : FT) (h : HT) (C : List Nat → HT → Bool) : Option (FT × HT) :=
  match f fr h with
  | some (.val v e) => tVal v fun v => onT h e fun h' => bif C (preds ops i) h' then pW n fr o.dst v fun fr => ih fr h' C else none
  | some (.enter f args) => match rec.call f args h with
    | some (r, h') => bif C (preds ops i) h' then pW n fr o.dst r fun fr => ih fr h' C else none
    | none => none
  | some (.round b args) => match roundT rec b args h with
    | some (r, h') => bif C (preds ops i) h' then pW n fr o.dst r fun fr => ih fr h' C else none
    | none => none
  | none => none
noncomputable def drT (P : Program) (rec : RecsT) (n : Nat) (ops : Array Oper) : List Nat → FT → HT → (List Nat → HT → Bool) → Option (FT × HT)
  | [], fr, h, _ => some (fr, h)
  | i :: rem, fr, h, C =>
    match ops[i]? with
    | none => none
    | some o => match wantA ops o fr.get with
      | none => none
      | some false => pW n fr o.dst sk fun fr => drT P rec n ops rem fr h C
      | some true => match opT P o.op some with
        | none => none
        | some f => match cls o.op with
          | 0 => match f fr h with
            | some (.val v _) => tVal v fun v => pW n fr o.dst v fun fr => drT P rec n ops rem fr h C
            | _ => none
          | 1 => lookT2 f n i o (drT P rec n ops rem) fr h C
          | 2 => bif isEff o.op then actT f rec n ops i o (drT P rec n ops rem) fr h C else none
          | _ => match newA P (evalA fr.get) o.op with
            | some (B, f) => h.push B fun h' => bif C [] h' then tVal (f h.n) fun v => pW n fr o.dst v fun fr => drT P rec n ops rem fr h' (fun A g => C A g && (A.contains i || keptT h.n B g)) else none
            | none => lookT2 f n i o (drT P rec n ops rem) fr h C
noncomputable def iterT (f : FT → HT → Option (Exit × FT × HT)) (k : Nat) : FT → HT → Option (Exit × FT × HT) :=
  Nat.rec (motive := fun _ => FT → HT → Option (Exit × FT × HT)) (fun _ _ => none) (fun _ ih fr h => match f fr h with
    | some (.normal, fr, h) => ih fr h
    | r => r) k
abbrev CodeT := FT → HT → Option (Exit × FT × HT)
noncomputable def regionT (P : Program) (rec : RecsT) (n : Nat) (ops : Array Oper) (draw : Bool) : CodeT := match draw with
  | false => fun fr h => match opsT P rec n ops ops.toList fr h with
    | some (fr, h) => some (.normal, fr, h)
    | none => none
  | true => fun fr h => bif planOk n ops (mkPlan ops ops.size []) then match drT P rec n ops (mkPlan ops ops.size []) fr h (fun _ _ => true) with
      | some (fr, h) => some (.normal, fr, h)
      | none => none
    else none
noncomputable def seqT (x y : CodeT) : CodeT := fun fr h => match x fr h with
    | some (.normal, fr, h) => y fr h
    | r => r
noncomputable def condT (c : Operand) (x y : CodeT) : CodeT := fun fr h => match evalA fr.get c with
    | .bool true => x fr h
    | .bool false => y fr h
    | _ => none
noncomputable def blockT (id : Nat) (c : CodeT) : CodeT := fun fr h => match c fr h with
    | some (.exit id', fr, h) => bif Nat.beq id' id then some (.normal, fr, h) else some (.exit id', fr, h)
    | r => r
noncomputable def rangeFT (rec : RecsT) (n : Nat) (g : Operand) (ps : Array Tmp) (x y : Code) : CodeT := fun fr h => match evalA fr.get g with
    | .func (.func gf) first cap => h.push (.loop { st := .ready, pend := none, n := n, fr := fr.get, ps := ps, assign := x, body := y }) fun h1 =>
      match rec.call gf (first.toList ++ [.func (.yield h.n) #[] #[]] ++ cap.toList) h1 with
      | some (_, h') => match h'.get h.n with
        | some (.loop L) => match L.st, L.pend with
          | .busy, _ => none
          | _, none => h'.put h.n .dead fun h => some (.normal, fr, h)
          | _, some .ret => h'.put h.n .dead fun h => some (.ret, fr, h)
          | _, some (.exit id) => h'.put h.n .dead fun h => some (.exit id, fr, h)
          | _, _ => none
        | _ => none
      | none => none
    | _ => none
noncomputable def codeT (P : Program) (rec : RecsT) (n : Nat) (c : Code) : CodeT :=
  Code.rec (motive := fun _ => CodeT)
    (skip := fun fr h => some (.normal, fr, h))
    (region := fun _ ops draw => regionT P rec n ops draw)
    (seq := fun _ _ x y => seqT x y)
    (cond := fun c _ _ x y => condT c x y)
    (block := fun id _ c => blockT id c)
    (loop := fun _ c => iterT c 100000)
    (rangeFunc := fun g ps x y _ _ => rangeFT rec n g ps x y)
    (exit := fun id fr h => some (.exit id, fr, h))
    (scope := fun _ _ _ _ => none)
    (label := fun _ fr h => some (.normal, fr, h))
    (goto := fun _ _ _ => none)
    (ret := fun fr h => some (.ret, fr, h))
    (refuse := fun _ _ _ => none) c
noncomputable def argsT {R : Type} (n : Nat) (k : FT → Option R) (l : List Value) : Nat → FT → Option R :=
  List.rec (motive := fun _ => Nat → FT → Option R) (fun _ t => k t) (fun v _ ih i t => tVal v fun v => pW n t (some i) v fun t => ih (Nat.succ i) t) l
noncomputable def resT (P : Program) (h : HT) (fr : Fr) : ResultVar → Option Value
  | .tmp t => some (fr t)
  | .cell a t => loadT P t (fr a) h
noncomputable def resultsT (P : Program) (fr : Fr) (h : HT) : List ResultVar → Option (List Value)
  | [] => some []
  | r :: rs => match resT P h fr r, resultsT P fr h rs with
    | some v, some vs => some (v :: vs)
    | _, _ => none
/-- a function, read once -/
noncomputable def funT (P : Program) (rec : RecsT) (f : FuncId) : List Value → HT → Option (Value × HT) :=
  match P.funcs[f]? with
  | none => fun _ _ => none
  | some fn => match fn.body with
    | none => fun _ _ => none
    | some c => bif callable P f && Nat.ble fn.ntmps 512 then fun args h => argsT fn.ntmps (fun fr => match codeT P rec fn.ntmps c fr h with
        | some (.normal, fr, h) => match resultsT P fr.get h fn.results.toList with
          | some vs => tVal (tupA vs) fun v => some (v, h)
          | none => none
        | some (.ret, fr, h) => match resultsT P fr.get h fn.results.toList with
          | some vs => tVal (tupA vs) fun v => some (v, h)
          | none => none
        | _ => none) args 0 .new
      else fun _ _ => none
noncomputable def recT (P : Program) (t : Known) (base : FuncId → Bool) (k : Nat) : RecsT :=
  Nat.rec (motive := fun _ => RecsT) ⟨fun _ _ _ => none, fun _ _ _ _ => none⟩ (fun _ ih => ⟨fun f args h => bif base f then match lookT t f args with
      | some r => some (r, h)
      | none => match funT P ih f args ⟨0, .nil⟩ with
        | some (r, _) => bif flat r && args.all flat then some (r, h) else none
        | none => none
    else funT P ih f args h, fun n c => codeT P ih n c⟩) k
end Go.Ab
