/- Walks told by their text, lazily: what follows an operation is looked at when its value is seen; and numbers. No condition. -/
import Derived.Test.YtojdhmkjegkfkaaAb14
namespace Go.Ab
open Go.RowKit
section
variable {P : Program} {h : Hp} {n : Nat} {fr : Fr} {Q : QA}

/-- what 'simp' is to leave alone -/
inductive Lazy {α : Sort _} (a : α) : Type
  | mk : Lazy a
/-- what follows an operation -/
def after (P : Program) (h : Hp) (r : Option Res) (K : Value → Hp → Prop) (_ : Lazy K) : Prop :=
  match r with
  | none => False
  | some (.val v h') => K v h'
  | some (.enter f args) => EvA P f args K h
  | some (.round b args) => RoundA P b args K h
@[simp ↓] theorem after_none (K : Value → Hp → Prop) (d : Lazy K) : after P h none K d = False := Eq.trans rfl rfl
@[simp] theorem after_val (v : Value) (h' : Hp) (K : Value → Hp → Prop) (d : Lazy K) : after P h (some (.val v h')) K d = K v h' := Eq.trans rfl rfl
theorem after_call {f : Nat} {args : List Value} {K : Value → Hp → Prop} {d : Lazy K} {Q : Value → Hp → Prop} (he : EvA P f args Q h) (hk : ∀ r h', Q r h' → K r h') : after P h (some (.enter f args)) K d := he.mono hk
theorem after_round {b : Nat} {args : List Value} {K : Value → Hp → Prop} {d : Lazy K} (he : RoundA P b args K h) : after P h (some (.round b args)) K d := he
theorem after_of {r : Option Res} {v : Value} {h' : Hp} {K : Value → Hp → Prop} {d : Lazy K} (hr : r = some (.val v h')) (hk : K v h') : after P h r K d := by rw [hr]; exact hk
/-- an operation of which it is not yet seen whether it is wanted -/
def wanted (w : Option Bool) (A B : Prop) (_ : Lazy A) (_ : Lazy B) : Prop :=
  match w with
  | none => False
  | some true => A
  | some false => B
@[simp] theorem wanted_true (A B : Prop) (d : Lazy A) (e : Lazy B) : wanted (some true) A B d e = A := Eq.trans rfl rfl
@[simp] theorem wanted_false (A B : Prop) (d : Lazy A) (e : Lazy B) : wanted (some false) A B d e = B := Eq.trans rfl rfl
@[simp] theorem wanted_none (A B : Prop) (d : Lazy A) (e : Lazy B) : wanted none A B d e = False := Eq.trans rfl rfl
theorem wanted_bool (b : Bool) (A B : Prop) (d : Lazy A) (e : Lazy B) : wanted (some b) A B d e = ((b = true → A) ∧ (b = false → B)) := by cases b <;> simp
@[simp ↓] theorem runOps_nil (ops : Array Oper) (K : Fr → Hp → Prop) : runOps P n ops K [] fr h = K fr h := Eq.trans rfl rfl
theorem runOps_cons' (ops : Array Oper) (K : Fr → Hp → Prop) (o : Oper) (rest : List Oper) :
    runOps P n ops K (o :: rest) fr h = wanted (wantA ops o fr) (after P h (opA P (evalA fr) o.op h) (fun v h' => runOps P n ops K rest (putF n fr o.dst v) h') .mk) (runOps P n ops K rest (putF n fr o.dst sk) h) .mk .mk := by
  rw [runOps]
  cases wantA ops o fr with
  | none => rfl
  | some t =>
    cases t
    · simp
    · simp only [Bool.true_eq_false, false_imp_iff, and_true, true_imp_iff, wanted_true, after]
      cases opA P (evalA fr) o.op h with
      | none => rfl
      | some r => cases r <;> rfl
@[simp ↓] theorem runOps_cons (ops : Array Oper) (K : Fr → Hp → Prop) (dst : Option Tmp) (op : Op) (ty : TypeId) (pos : String) (aft : Array Edge) (rest : List Oper) :
    runOps P n ops K (⟨dst, op, ty, pos, aft, none⟩ :: rest) fr h = after P h (opA P (evalA fr) op h) (fun v h' => runOps P n ops K rest (putF n fr dst v) h') .mk := by
  rw [runOps_cons']
  rfl
@[simp ↓] theorem runOps_guard (ops : Array Oper) (K : Fr → Hp → Prop) (dst : Option Tmp) (op : Op) (ty : TypeId) (pos : String) (aft : Array Edge) (g : Nat × Bool) (rest : List Oper) :
    runOps P n ops K (⟨dst, op, ty, pos, aft, some g⟩ :: rest) fr h = wanted (wantA ops ⟨dst, op, ty, pos, aft, some g⟩ fr) (after P h (opA P (evalA fr) op h) (fun v h' => runOps P n ops K rest (putF n fr dst v) h') .mk) (runOps P n ops K rest (putF n fr dst sk) h) .mk .mk := runOps_cons' _ _ _ _
def normK (Q : QA) : Fr → Hp → Prop := fun fr h => Q .normal fr h
@[simp ↓] theorem normK_eq : normK Q fr h = Q .normal fr h := Eq.trans rfl rfl
def seqQ (P : Program) (n : Nat) (y : Code) (Q : QA) : QA := fun e fr h => match e with
  | .normal => Run P n y Q fr h
  | e => Q e fr h
@[simp ↓] theorem seqQ_normal (y : Code) : seqQ P n y Q .normal fr h = Run P n y Q fr h := Eq.trans rfl rfl
@[simp ↓] theorem seqQ_ret (y : Code) : seqQ P n y Q .ret fr h = Q .ret fr h := Eq.trans rfl rfl
@[simp ↓] theorem seqQ_exit (y : Code) (id : Nat) : seqQ P n y Q (.exit id) fr h = Q (.exit id) fr h := Eq.trans rfl rfl
def blkQ (id : Nat) (Q : QA) : QA := fun e fr h => match e with
  | .exit id' => if id' = id then Q .normal fr h else Q (.exit id') fr h
  | e => Q e fr h
@[simp ↓] theorem blkQ_normal (id : Nat) : blkQ id Q .normal fr h = Q .normal fr h := Eq.trans rfl rfl
@[simp ↓] theorem blkQ_ret (id : Nat) : blkQ id Q .ret fr h = Q .ret fr h := Eq.trans rfl rfl
theorem blkQ_exit (id id' : Nat) : blkQ id Q (.exit id') fr h = if id' = id then Q .normal fr h else Q (.exit id') fr h := rfl
@[simp ↓] theorem blkQ_same (id : Nat) : blkQ id Q (.exit id) fr h = Q .normal fr h := by rw [blkQ_exit, if_pos rfl]
@[simp ↓] theorem blkQ_other (id id' : Nat) (hne : (id' == id) = false) : blkQ id Q (.exit id') fr h = Q (.exit id') fr h := by rw [blkQ_exit, if_neg (by simpa using hne)]
@[simp ↓] theorem Run_seq' (x y : Code) : Run P n (.seq x y) Q fr h = Run P n x (seqQ P n y Q) fr h := Eq.trans rfl rfl
@[simp ↓] theorem Run_block' (id : Nat) (c : Code) : Run P n (.block id c) Q fr h = Run P n c (blkQ id Q) fr h := Eq.trans rfl rfl
@[simp ↓] theorem Run_region' (id : Nat) (l : List Oper) : Run P n (.region id l.toArray false) Q fr h = runOps P n l.toArray (normK Q) l fr h := Eq.trans rfl rfl
def wantV (v : Value) (want : Bool) : Option Bool :=
  match v with
  | .bool b => some (b == want)
  | .float .f32 0 => some false
  | _ => none
def wantD (d : Option Tmp) (want : Bool) (fr : Fr) : Option Bool :=
  match d with
  | none => some false
  | some d => wantV (fr d) want
@[simp] theorem wantV_true (b : Bool) : wantV (.bool b) true = some b := by cases b <;> rfl
@[simp] theorem wantV_false (b : Bool) : wantV (.bool b) false = some (!b) := by cases b <;> rfl
@[simp] theorem wantV_sk (want : Bool) : wantV sk want = some false := Eq.trans rfl rfl
@[simp] theorem wantD_some (d : Tmp) (want : Bool) : wantD (some d) want fr = wantV (fr d) want := Eq.trans rfl rfl
@[simp] theorem wantD_none (want : Bool) : wantD none want fr = some false := Eq.trans rfl rfl
@[simp ↓] theorem wantA_some (ops : Array Oper) (d op ty pos aft) (j : Nat) (want : Bool) : wantA ops ⟨d, op, ty, pos, aft, some (j, want)⟩ fr = wantD ((ops[j]?).bind (·.dst)) want fr := by
  simp only [wantA, wantD, wantV]
  cases h : (ops[j]?).bind (·.dst) with
  | none => rfl
  | some d => simp only; cases fr d <;> first | rfl | (rename_i a b; cases a <;> cases b <;> rfl)
theorem wanted_cases {b : Bool} {A B : Prop} {d : Lazy A} {e : Lazy B} (ha : b = true → A) (hb : b = false → B) : wanted (some b) A B d e := by cases b <;> first | exact hb rfl | exact ha rfl
/-- where 'simp' stops -/
def stop (p : Prop) (_ : Lazy p) : Prop := p
@[simp ↓] theorem Run_loop' (c : Code) : Run P n (.loop c) Q fr h = stop (WpA P n (.loop c) Q fr h) .mk := Eq.trans rfl rfl
@[simp ↓] theorem Run_rangeFunc' (g : Operand) (ps : Array Tmp) (x y : Code) : Run P n (.rangeFunc g ps x y) Q fr h = stop (WpA P n (.rangeFunc g ps x y) Q fr h) .mk := Eq.trans rfl rfl
@[simp ↓] theorem Run_draw' (id : Nat) (ops : Array Oper) : Run P n (.region id ops true) Q fr h = stop (WpA P n (.region id ops true) Q fr h) .mk := Eq.trans rfl rfl
/-- a branch -/
def branch (v : Value) (A B : Prop) (_ : Lazy A) (_ : Lazy B) : Prop :=
  match v with
  | .bool true => A
  | .bool false => B
  | _ => False
@[simp] theorem branch_true (A B : Prop) (d : Lazy A) (e : Lazy B) : branch (.bool true) A B d e = A := Eq.trans rfl rfl
@[simp] theorem branch_false (A B : Prop) (d : Lazy A) (e : Lazy B) : branch (.bool false) A B d e = B := Eq.trans rfl rfl
theorem branch_bool (b : Bool) (A B : Prop) (d : Lazy A) (e : Lazy B) : branch (.bool b) A B d e = ((b = true → A) ∧ (b = false → B)) := by cases b <;> simp
theorem branch_cases {b : Bool} {A B : Prop} {d : Lazy A} {e : Lazy B} (ha : b = true → A) (hb : b = false → B) : branch (.bool b) A B d e := by cases b <;> first | exact hb rfl | exact ha rfl
@[simp ↓] theorem Run_branch (c : Operand) (x y : Code) : Run P n (.cond c x y) Q fr h = branch (evalA fr c) (Run P n x Q fr h) (Run P n y Q fr h) .mk .mk := by
  rw [Run_cond]
  unfold branch
  cases evalA fr c with
  | bool b => cases b <;> simp
  | _ => rfl
/-- how a call's answer is used -/
theorem EvA.use {f : FuncId} {args : List Value} {K K' : Value → Hp → Prop} (he : EvA P f args K h) (hk : ∀ r h', K r h' → K' r h') : EvA P f args K' h := he.mono hk

/-! numbers -/
@[simp] theorem bits_i8 : IntKind.i8.bits = 8 := Eq.trans rfl rfl
@[simp] theorem bits_u8 : IntKind.u8.bits = 8 := Eq.trans rfl rfl
@[simp] theorem bits_i16 : IntKind.i16.bits = 16 := Eq.trans rfl rfl
@[simp] theorem bits_u16 : IntKind.u16.bits = 16 := Eq.trans rfl rfl
@[simp] theorem bits_i32 : IntKind.i32.bits = 32 := Eq.trans rfl rfl
@[simp] theorem bits_u32 : IntKind.u32.bits = 32 := Eq.trans rfl rfl
@[simp] theorem bits_i64 : IntKind.i64.bits = 64 := Eq.trans rfl rfl
@[simp] theorem bits_u64 : IntKind.u64.bits = 64 := Eq.trans rfl rfl
theorem wrap_id {k : IntKind} {a : Int} (h0 : k.min ≤ a) (h1 : a ≤ k.max) : k.wrap a = a := by
  cases k <;> simp [IntKind.wrap, IntKind.min, IntKind.max, IntKind.bits, IntKind.signed] at * <;> omega
theorem wrap_i64 {a : Int} (h0 : -9223372036854775808 ≤ a) (h1 : a ≤ 9223372036854775807) : IntKind.i64.wrap a = a := by
  simp [IntKind.wrap, IntKind.signed]; omega
theorem wrap_i32 {a : Int} (h0 : -2147483648 ≤ a) (h1 : a ≤ 2147483647) : IntKind.i32.wrap a = a := by
  simp [IntKind.wrap, IntKind.signed]; omega
theorem wrap_u64 {a : Int} (h0 : 0 ≤ a) (h1 : a ≤ 18446744073709551615) : IntKind.u64.wrap a = a := by
  simp [IntKind.wrap, IntKind.signed]; omega
theorem wrap_u32 {a : Int} (h0 : 0 ≤ a) (h1 : a ≤ 4294967295) : IntKind.u32.wrap a = a := by
  simp [IntKind.wrap, IntKind.signed]; omega
theorem wrap_u8 {a : Int} (h0 : 0 ≤ a) (h1 : a ≤ 255) : IntKind.u8.wrap a = a := by
  simp [IntKind.wrap, IntKind.signed]; omega
@[simp] theorem wrap_i64_lit (n : Nat) (h : Nat.ble n 9223372036854775807 = true) : IntKind.i64.wrap (no_index (OfNat.ofNat n)) = (OfNat.ofNat n : Int) :=
  wrap_i64 (a := (OfNat.ofNat n : Int)) (by have : (0 : Int) ≤ OfNat.ofNat n := Int.natCast_nonneg n; omega) (by have := Nat.le_of_ble_eq_true h; exact Int.ofNat_le.2 this)
@[simp] theorem wrap_u64_lit (n : Nat) (h : Nat.ble n 18446744073709551615 = true) : IntKind.u64.wrap (no_index (OfNat.ofNat n)) = (OfNat.ofNat n : Int) :=
  wrap_u64 (a := (OfNat.ofNat n : Int)) (Int.natCast_nonneg n) (by have := Nat.le_of_ble_eq_true h; exact Int.ofNat_le.2 this)
@[simp] theorem wrap_u8_lit (n : Nat) (h : Nat.ble n 255 = true) : IntKind.u8.wrap (no_index (OfNat.ofNat n)) = (OfNat.ofNat n : Int) :=
  wrap_u8 (a := (OfNat.ofNat n : Int)) (Int.natCast_nonneg n) (by have := Nat.le_of_ble_eq_true h; exact Int.ofNat_le.2 this)
theorem wrap_u8_mod (a : Int) : IntKind.u8.wrap a = a % 256 := by simp [IntKind.wrap, IntKind.signed]
theorem wrap_u64_mod (a : Int) : IntKind.u64.wrap a = a % 18446744073709551616 := by simp [IntKind.wrap, IntKind.signed]
theorem fdiv_pos {a b : Int} (hb : 0 ≤ b) : a.fdiv b = a / b := Int.fdiv_eq_ediv_of_nonneg a hb

/-! operations at values whose form is seen -/
@[simp] theorem conv_int {s d : TypeId} {k0 k k' : IntKind} {m : Int} (hs : P.underlying s = some (.int k0)) (hd : P.underlying d = some (.int k)) : convA P s d (.int k' m) h = some (.int k (k.wrap m), h) := by
  simp [convA, hs, hd]
@[simp] theorem conv_sb {s d e : TypeId} {u : ByteArray} (hs : P.underlying s = some .string) (hd : P.underlying d = some (.slice e)) (he : P.underlying e = some (.int .u8)) :
    convA P s d (.string u) h = if u.size < 4611686018427387904 then some (.slice (some ⟨h.length, 0, none⟩) u.size (capO + u.size), h ++ [.cells (u.data.toList.map byteV) false (some 1)]) else none := by
  simp [convA, hs, hd, he]
@[simp] theorem index_string {t : TypeId} {u : ByteArray} {k : IntKind} {i : Int} (ht : P.underlying t = some .string) : indexA P t (.string u) (.int k i) = if 0 ≤ i then (u[i.toNat]?).map fun b => .int .u8 b.toNat else none := by
  simp [indexA, ht]
@[simp] theorem len_string {t : TypeId} {u : ByteArray} (ht : P.underlying t = some .string) : lenA P t (.string u) h = some (.int .i64 (u.size : Nat)) := by
  simp [lenA, ht]
@[simp] theorem bnd_none (d m : Nat) : bndA none d m = some d := Eq.trans rfl rfl
@[simp] theorem bnds_lh (n c : Nat) (k k' : IntKind) (l u : Int) : bndsA n c (some (.int k l)) (some (.int k' u)) none = if 0 ≤ l ∧ l ≤ u ∧ u ≤ c then some (l.toNat, u.toNat, c) else none := by
  simp only [bndsA, bndA]
  by_cases h1 : 0 ≤ u ∧ u ≤ (c : Int)
  · rw [if_pos h1]
    by_cases h2 : 0 ≤ l ∧ l ≤ u
    · simp only
      rw [if_pos (by omega), if_pos (by omega)]
    · simp only
      rw [if_neg (by omega), if_neg (by omega)]
  · rw [if_neg h1, if_neg (by omega)]
@[simp] theorem bnds_l (n c : Nat) (k : IntKind) (l : Int) : bndsA n c (some (.int k l)) none none = if 0 ≤ l ∧ l ≤ n then some (l.toNat, n, c) else none := by
  simp only [bndsA, bndA]
  by_cases h2 : 0 ≤ l ∧ l ≤ (n : Int)
  · rw [if_pos h2, if_pos h2]
  · rw [if_neg h2, if_neg h2]
@[simp] theorem bnds_h (n c : Nat) (k : IntKind) (u : Int) : bndsA n c none (some (.int k u)) none = if 0 ≤ u ∧ u ≤ c then some (0, u.toNat, c) else none := by
  simp only [bndsA, bndA]
  by_cases h1 : 0 ≤ u ∧ u ≤ (c : Int)
  · rw [if_pos h1, if_pos h1]
  · rw [if_neg h1, if_neg h1]
@[simp] theorem bnds_none (n c : Nat) : bndsA n c none none none = some (0, n, c) := Eq.trans rfl rfl
@[simp] theorem slice_string {t : TypeId} {u : ByteArray} {lo hi : Option Value} (ht : P.underlying t = some .string) : sliceA P t (.string u) lo hi none h = (bndsA u.size u.size lo hi none).map fun p => .string (u.extract p.1 p.2.1) := by
  simp only [sliceA, ht]
  cases bndsA u.size u.size lo hi none with
  | none => rfl
  | some p => rfl
@[simp] theorem bin_eql_ptr10 {t : TypeId} {x y : Operand} {e : TypeId} (a : Addr) (ht : P.underlying t = some (.pointer e)) : binA P .eql t x y (.pointer (some a)) (.pointer none) = some (.bool false) := by
  simp only [binA, guardA, if_true]
  rw [show (10000 : Nat) = 9999 + 1 from rfl]
  simp [eqA, ht]
@[simp] theorem bin_neq_ptr10 {t : TypeId} {x y : Operand} {e : TypeId} (a : Addr) (ht : P.underlying t = some (.pointer e)) : binA P .neq t x y (.pointer (some a)) (.pointer none) = some (.bool true) := by
  simp only [binA, guardA, if_true]
  rw [show (10000 : Nat) = 9999 + 1 from rfl]
  simp [eqA, ht]
@[simp] theorem bin_eql_ptr01 {t : TypeId} {x y : Operand} {e : TypeId} (a : Addr) (ht : P.underlying t = some (.pointer e)) : binA P .eql t x y (.pointer none) (.pointer (some a)) = some (.bool false) := by
  simp only [binA, guardA, if_true]
  rw [show (10000 : Nat) = 9999 + 1 from rfl]
  simp [eqA, ht]
@[simp] theorem bin_neq_ptr01 {t : TypeId} {x y : Operand} {e : TypeId} (a : Addr) (ht : P.underlying t = some (.pointer e)) : binA P .neq t x y (.pointer none) (.pointer (some a)) = some (.bool true) := by
  simp only [binA, guardA, if_true]
  rw [show (10000 : Nat) = 9999 + 1 from rfl]
  simp [eqA, ht]
@[simp] theorem bin_eql_ptr00 {t : TypeId} {x y : Operand} {e : TypeId} (ht : P.underlying t = some (.pointer e)) : binA P .eql t x y (.pointer none) (.pointer none) = some (.bool true) := by
  simp only [binA, guardA, if_true]
  rw [show (10000 : Nat) = 9999 + 1 from rfl]
  simp [eqA, ht]
@[simp] theorem bin_neq_ptr00 {t : TypeId} {x y : Operand} {e : TypeId} (ht : P.underlying t = some (.pointer e)) : binA P .neq t x y (.pointer none) (.pointer none) = some (.bool false) := by
  simp only [binA, guardA, if_true]
  rw [show (10000 : Nat) = 9999 + 1 from rfl]
  simp [eqA, ht]
@[simp] theorem bin_eql_sl10 {t : TypeId} {x y : Operand} {e : TypeId} (a : Addr) (i c j d : Nat) (ht : P.underlying t = some (.slice e)) : binA P .eql t x y (.slice (some a) i c) (.slice none j d) = some (.bool false) := by
  simp only [binA, guardA, if_true]
  rw [show (10000 : Nat) = 9999 + 1 from rfl]
  simp [eqA, ht]
@[simp] theorem bin_neq_sl10 {t : TypeId} {x y : Operand} {e : TypeId} (a : Addr) (i c j d : Nat) (ht : P.underlying t = some (.slice e)) : binA P .neq t x y (.slice (some a) i c) (.slice none j d) = some (.bool true) := by
  simp only [binA, guardA, if_true]
  rw [show (10000 : Nat) = 9999 + 1 from rfl]
  simp [eqA, ht]
@[simp] theorem bin_eql_sl00 {t : TypeId} {x y : Operand} {e : TypeId} (i c j d : Nat) (ht : P.underlying t = some (.slice e)) : binA P .eql t x y (.slice none i c) (.slice none j d) = some (.bool true) := by
  simp only [binA, guardA, if_true]
  rw [show (10000 : Nat) = 9999 + 1 from rfl]
  simp [eqA, ht]
@[simp] theorem bin_neq_sl00 {t : TypeId} {x y : Operand} {e : TypeId} (i c j d : Nat) (ht : P.underlying t = some (.slice e)) : binA P .neq t x y (.slice none i c) (.slice none j d) = some (.bool false) := by
  simp only [binA, guardA, if_true]
  rw [show (10000 : Nat) = 9999 + 1 from rfl]
  simp [eqA, ht]
@[simp] theorem bin_eql_map10 {t : TypeId} {x y : Operand} {k e : TypeId} (a : Nat) (ht : P.underlying t = some (.map k e)) : binA P .eql t x y (.map (some a)) (.map none) = some (.bool false) := by
  simp only [binA, guardA, if_true]
  rw [show (10000 : Nat) = 9999 + 1 from rfl]
  simp [eqA, ht]
@[simp] theorem bin_neq_map10 {t : TypeId} {x y : Operand} {k e : TypeId} (a : Nat) (ht : P.underlying t = some (.map k e)) : binA P .neq t x y (.map (some a)) (.map none) = some (.bool true) := by
  simp only [binA, guardA, if_true]
  rw [show (10000 : Nat) = 9999 + 1 from rfl]
  simp [eqA, ht]
@[simp] theorem bin_eql_map00 {t : TypeId} {x y : Operand} {k e : TypeId} (ht : P.underlying t = some (.map k e)) : binA P .eql t x y (.map none) (.map none) = some (.bool true) := by
  simp only [binA, guardA, if_true]
  rw [show (10000 : Nat) = 9999 + 1 from rfl]
  simp [eqA, ht]
@[simp] theorem bin_neq_map00 {t : TypeId} {x y : Operand} {k e : TypeId} (ht : P.underlying t = some (.map k e)) : binA P .neq t x y (.map none) (.map none) = some (.bool false) := by
  simp only [binA, guardA, if_true]
  rw [show (10000 : Nat) = 9999 + 1 from rfl]
  simp [eqA, ht]
@[simp] theorem bin_eql_if10 {t : TypeId} {x y : Operand} {ms : Array (String × TypeId)} (u : TypeId) (v : Value) (ht : P.underlying t = some (.interface ms)) : binA P .eql t x y (.iface u v) (.nilIface) = some (.bool false) := by
  simp only [binA, guardA, if_true]
  rw [show (10000 : Nat) = 9999 + 1 from rfl]
  simp [eqA, ht]
@[simp] theorem bin_neq_if10 {t : TypeId} {x y : Operand} {ms : Array (String × TypeId)} (u : TypeId) (v : Value) (ht : P.underlying t = some (.interface ms)) : binA P .neq t x y (.iface u v) (.nilIface) = some (.bool true) := by
  simp only [binA, guardA, if_true]
  rw [show (10000 : Nat) = 9999 + 1 from rfl]
  simp [eqA, ht]
@[simp] theorem bin_eql_if01 {t : TypeId} {x y : Operand} {ms : Array (String × TypeId)} (u : TypeId) (v : Value) (ht : P.underlying t = some (.interface ms)) : binA P .eql t x y (.nilIface) (.iface u v) = some (.bool false) := by
  simp only [binA, guardA, if_true]
  rw [show (10000 : Nat) = 9999 + 1 from rfl]
  simp [eqA, ht]
@[simp] theorem bin_neq_if01 {t : TypeId} {x y : Operand} {ms : Array (String × TypeId)} (u : TypeId) (v : Value) (ht : P.underlying t = some (.interface ms)) : binA P .neq t x y (.nilIface) (.iface u v) = some (.bool true) := by
  simp only [binA, guardA, if_true]
  rw [show (10000 : Nat) = 9999 + 1 from rfl]
  simp [eqA, ht]
@[simp] theorem bin_eql_bool {t : TypeId} {x y : Operand} (ht : P.underlying t = some .bool) (a b : Bool) : binA P .eql t x y (.bool a) (.bool b) = some (.bool (a == b)) := by
  simp only [binA, guardA, if_true]
  rw [show (10000 : Nat) = 9999 + 1 from rfl]
  simp [eqA, ht]
@[simp] theorem bin_neq_bool {t : TypeId} {x y : Operand} (ht : P.underlying t = some .bool) (a b : Bool) : binA P .neq t x y (.bool a) (.bool b) = some (.bool (a != b)) := by
  simp only [binA, guardA, if_true]
  rw [show (10000 : Nat) = 9999 + 1 from rfl]
  simp [eqA, ht, bne]
@[simp] theorem mm_two (mx : Bool) (k : IntKind) (a b : Int) : mmA mx [.int k a, .int k b] = some (.int k (if mx then max a b else min a b)) := by
  simp [mmA, mm2]
  cases mx <;> simp <;> omega
end
end Go.Ab
