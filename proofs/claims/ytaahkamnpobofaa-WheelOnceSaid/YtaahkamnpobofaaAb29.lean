/- An evaluator over tree heaps: what it computes, the call comes to; no condition. -/
import Derived.Test.YtaahkamnpobofaaAb21
/- The evaluator of closed calls over tree heaps: what it computes; no condition. Printed by gen22.py. -/
namespace Go.Ab
open Go.RowKit

/-! ### memory as a tree -/
inductive HTr where
  | nil
  | node (v : Blk) (l r : HTr)
namespace HTr
noncomputable def get (t : HTr) : Nat → Blk :=
  HTr.rec (motive := fun _ => Nat → Blk) (fun _ => .dead) (fun v _ _ gl gr i => Bool.rec (Bool.rec (gr (Nat.pred (Nat.div i 2))) (gl (Nat.div i 2)) (Nat.beq (Nat.mod i 2) 1)) v (Nat.beq i 0)) t
noncomputable def sing {R : Type} (n : Nat) : Nat → Blk → (HTr → R) → R :=
  Nat.rec (motive := fun _ => Nat → Blk → (HTr → R) → R) (fun _ _ k => k .nil)
    (fun _ ih i x k => Bool.rec (Bool.rec (ih (Nat.pred (Nat.div i 2)) x (fun r => k (.node .dead .nil r))) (ih (Nat.div i 2) x (fun l => k (.node .dead l .nil))) (Nat.beq (Nat.mod i 2) 1)) (k (.node x .nil .nil)) (Nat.beq i 0)) n
noncomputable def putK {R : Type} (t : HTr) : Nat → Blk → (HTr → R) → R :=
  HTr.rec (motive := fun _ => Nat → Blk → (HTr → R) → R) (fun i x k => sing 14 i x k)
    (fun v l r pl pr i x k => Bool.rec (Bool.rec (pr (Nat.pred (Nat.div i 2)) x (fun r => k (.node v l r))) (pl (Nat.div i 2) x (fun l => k (.node v l r))) (Nat.beq (Nat.mod i 2) 1)) (k (.node x l r)) (Nat.beq i 0)) t
end HTr


structure HT where
  n : Nat
  t : HTr
noncomputable def HT.get (h : HT) (b : Nat) : Option Blk := Bool.rec none (some (HTr.get h.t b)) (Nat.ble (Nat.succ b) h.n)
/-- the same memory as a list -/
noncomputable def HT.hp (h : HT) : Hp := (List.range h.n).map h.t.get
/-- what an operation does to memory -/
inductive Eff where
  | none
  | set (b : Nat) (B : Blk)
  | push (B : Blk)
  | swap (b : Nat) (B C : Blk)
def Eff.on (h : Hp) : Eff → Hp
  | .none => h
  | .set b B => h.set b B
  | .push B => h ++ [B]
  | .swap b B C => h.set b B ++ [C]
/-! ### values are looked at ahead of use: by recursors -/
noncomputable def tList {α R : Type} (f : α → (α → R) → R) (l : List α) : (List α → R) → R :=
  List.rec (motive := fun _ => (List α → R) → R) (fun k => k []) (fun x _ ih k => f x fun x => ih fun xs => k (x :: xs)) l
noncomputable def tStr {R : Type} (s : ByteArray) (k : ByteArray → R) : R := match s with
  | ⟨⟨l⟩⟩ => tList sU8 l fun l => k ⟨⟨l⟩⟩
noncomputable def tVal1 {R : Type} (v : Value) (k : Value → R) : R := match v with
  | .bool b => sBool b fun b => k (.bool b)
  | .int kd n => sInt n fun n => k (.int kd n)
  | .string s => tStr s fun s => k (.string s)
  | .pointer (some ⟨b, o, s⟩) => sNat b fun b => sNat o fun o => k (.pointer (some ⟨b, o, s⟩))
  | .slice none n c => sNat n fun n => sNat c fun c => k (.slice none n c)
  | .slice (some ⟨b, o, s⟩) n c => sNat b fun b => sNat o fun o => sNat n fun n => sNat c fun c => k (.slice (some ⟨b, o, s⟩) n c)
  | .map (some b) => sNat b fun b => k (.map (some b))
  | v => k v
noncomputable def tVal {R : Type} (v : Value) (k : Value → R) : R := match v with
  | .agg ⟨l⟩ => tList tVal1 l fun l => k (.agg ⟨l⟩)
  | .tuple ⟨l⟩ => tList tVal1 l fun l => k (.tuple ⟨l⟩)
  | v => tVal1 v k
noncomputable def tPair {R : Type} (p : Value × Value) (k : Value × Value → R) : R := match p with
  | (x, y) => tVal x fun x => tVal y fun y => k (x, y)
noncomputable def tBlk {R : Type} (B : Blk) (k : Blk → R) : R := match B with
  | .cells cs ro op => tList tVal1 cs fun cs => k (.cells cs ro op)
  | .map es => tList tPair es fun es => k (.map es)
  | .siter s p => sNat p fun p => k (.siter s p)
  | B => k B
noncomputable def HT.put {R : Type} (h : HT) (b : Nat) (B : Blk) (k : HT → Option R) : Option R :=
  Bool.rec none (tBlk B fun B => HTr.putK h.t b B fun t => k ⟨h.n, t⟩) (Bool.rec false (Nat.ble h.n 16000) (Nat.ble (Nat.succ b) h.n))
noncomputable def HT.push {R : Type} (h : HT) (B : Blk) (k : HT → Option R) : Option R :=
  Bool.rec none (tBlk B fun B => HTr.putK h.t h.n B fun t => sNat (Nat.succ h.n) fun n => k ⟨n, t⟩) (Nat.ble (Nat.succ h.n) 16000)
noncomputable def onT {R : Type} (h : HT) (e : Eff) (k : HT → Option R) : Option R := match e with
  | .none => k h
  | .set b B => h.put b B k
  | .push B => h.push B k
  | .swap b B C => h.put b B fun h => h.push C k
/-! ### frames, eight by eight by eight -/
structure W (α : Type) where
  a0 : α
  a1 : α
  a2 : α
  a3 : α
  a4 : α
  a5 : α
  a6 : α
  a7 : α
noncomputable def W.u0 {α R : Type} (x : W α) (g : α → (α → R) → R) (k : W α → R) : R := W.rec (motive := fun _ => R) (fun a0 a1 a2 a3 a4 a5 a6 a7 => g a0 fun y => k (W.mk y a1 a2 a3 a4 a5 a6 a7)) x
noncomputable def W.u1 {α R : Type} (x : W α) (g : α → (α → R) → R) (k : W α → R) : R := W.rec (motive := fun _ => R) (fun a0 a1 a2 a3 a4 a5 a6 a7 => g a1 fun y => k (W.mk a0 y a2 a3 a4 a5 a6 a7)) x
noncomputable def W.u2 {α R : Type} (x : W α) (g : α → (α → R) → R) (k : W α → R) : R := W.rec (motive := fun _ => R) (fun a0 a1 a2 a3 a4 a5 a6 a7 => g a2 fun y => k (W.mk a0 a1 y a3 a4 a5 a6 a7)) x
noncomputable def W.u3 {α R : Type} (x : W α) (g : α → (α → R) → R) (k : W α → R) : R := W.rec (motive := fun _ => R) (fun a0 a1 a2 a3 a4 a5 a6 a7 => g a3 fun y => k (W.mk a0 a1 a2 y a4 a5 a6 a7)) x
noncomputable def W.u4 {α R : Type} (x : W α) (g : α → (α → R) → R) (k : W α → R) : R := W.rec (motive := fun _ => R) (fun a0 a1 a2 a3 a4 a5 a6 a7 => g a4 fun y => k (W.mk a0 a1 a2 a3 y a5 a6 a7)) x
noncomputable def W.u5 {α R : Type} (x : W α) (g : α → (α → R) → R) (k : W α → R) : R := W.rec (motive := fun _ => R) (fun a0 a1 a2 a3 a4 a5 a6 a7 => g a5 fun y => k (W.mk a0 a1 a2 a3 a4 y a6 a7)) x
noncomputable def W.u6 {α R : Type} (x : W α) (g : α → (α → R) → R) (k : W α → R) : R := W.rec (motive := fun _ => R) (fun a0 a1 a2 a3 a4 a5 a6 a7 => g a6 fun y => k (W.mk a0 a1 a2 a3 a4 a5 y a7)) x
noncomputable def W.u7 {α R : Type} (x : W α) (g : α → (α → R) → R) (k : W α → R) : R := W.rec (motive := fun _ => R) (fun a0 a1 a2 a3 a4 a5 a6 a7 => g a7 fun y => k (W.mk a0 a1 a2 a3 a4 a5 a6 y)) x
abbrev FT := W (W (W Value))
def W.all {α : Type} (x : α) : W α := ⟨x, x, x, x, x, x, x, x⟩
def FT.new : FT := .all (.all (.all any))
noncomputable def digG {α R : Type} (j : Nat) (k : (W α → α) → R) : R := match j with
  | 0 => k W.a0
  | 1 => k W.a1
  | 2 => k W.a2
  | 3 => k W.a3
  | 4 => k W.a4
  | 5 => k W.a5
  | 6 => k W.a6
  | _ => k W.a7
noncomputable def digU {α S R : Type} (j : Nat) (k : (W α → (α → (α → S) → S) → (W α → S) → S) → R) : R := match j with
  | 0 => k W.u0
  | 1 => k W.u1
  | 2 => k W.u2
  | 3 => k W.u3
  | 4 => k W.u4
  | 5 => k W.u5
  | 6 => k W.u6
  | _ => k W.u7
/-- how a word is read -/
noncomputable def getK {R : Type} (i : Nat) (k : (FT → Value) → R) : R :=
  bif Nat.ble i 511 then digG (Nat.div i 64) fun (x : FT → W (W Value)) => digG (Nat.mod (Nat.div i 8) 8) fun (y : W (W Value) → W Value) => digG (Nat.mod i 8) fun (z : W Value → Value) => k fun f => z (y (x f)) else k fun _ => any
/-- how a word is written -/
noncomputable def putWK {S R : Type} (i : Nat) (k : (FT → Value → (FT → S) → S) → R) : R :=
  digU (S := S) (Nat.div i 64) fun x => digU (S := S) (Nat.mod (Nat.div i 8) 8) fun y => digU (S := S) (Nat.mod i 8) fun z => k fun f v kk => x f (fun b k => y b (fun c k => z c (fun _ k => k v) k) k) kk
noncomputable def FT.get (f : FT) (i : Nat) : Value := getK i fun g => g f
noncomputable def FT.putK {S : Type} (f : FT) (i : Nat) (v : Value) (k : FT → S) : S := putWK i fun p => p f v k
/-! ### operations -/
noncomputable def loadT (P : Program) (t : TypeId) (p : Value) (h : HT) : Option Value :=
  match p with
  | .pointer (some ⟨b, o, none⟩) =>
    match h.get b with
    | some (.cells cs _ _) =>
      match aggT P t with
      | some false => cs[o]?
      | some true =>
        match sizeT P t with
        | some n => if o + n ≤ cs.length then some (.agg ((cs.drop o).take n).toArray) else none
        | none => none
      | none => none
    | _ => none
  | _ => none

noncomputable def storeT (P : Program) (t : TypeId) (p x : Value) (h : HT) : Option Eff :=
  match p with
  | .pointer (some ⟨b, o, none⟩) =>
    match h.get b with
    | some (.cells cs false op) =>
      match cellsOf x with
      | some xs => if sizeT P t = some xs.length ∧ o + xs.length ≤ cs.length ∧ xs.all oneA = true then some (Eff.set b (.cells (spl cs o xs) false op)) else none
      | none => none
    | _ => none
  | _ => none

noncomputable def convT (P : Program) (src dst : TypeId) (x : Value) (h : HT) : Option (Value × Eff) :=
  match P.underlying src, P.underlying dst, x with
  | some (.int _), some (.int k), .int _ n => some (.int k (k.wrap n), Eff.none)
  | some .string, some .string, .string s => some (.string s, Eff.none)
  | some .string, some (.slice e), .string s =>
    match P.underlying e with
    | some (.int .u8) => if s.size < 4611686018427387904 then some (.slice (some ⟨h.n, 0, none⟩) s.size (capO + s.size), Eff.push (.cells (s.data.toList.map byteV) false (some 1))) else none
    | _ => none
  | some (.slice e), some .string, .slice none 0 0 =>
    match P.underlying e with
    | some (.int .u8) => some (.string ⟨#[]⟩, Eff.none)
    | _ => none
  | some (.slice e), some .string, .slice (some ⟨_, _, some _⟩) 0 0 =>
    match P.underlying e with
    | some (.int .u8) => some (.string ⟨#[]⟩, Eff.none)
    | _ => none
  | some (.slice e), some .string, .slice (some ⟨b, o, none⟩) n _ =>
    match P.underlying e with
    | some (.int .u8) =>
      if n = 0 then some (.string ⟨#[]⟩, Eff.none) else
      match h.get b with
      | some (.cells cs _ _) =>
        if o + n ≤ cs.length then
          match bytesOf ((cs.drop o).take n) with
          | some l => some (.string ⟨l.toArray⟩, Eff.none)
          | none => none
        else none
      | _ => none
    | _ => none
  | some (.slice _), some (.slice e), .slice (some ⟨b, _, none⟩) _ _ =>
    match P.underlying e, h.get b with
    | some (.int .u8), some (.cells _ false _) => if src = dst then some (x, Eff.none) else none
    | _, _ => none
  | _, _, _ => none

noncomputable def srcT (z : Nat) (x : Value) (h : HT) : Option (Nat × List Value) :=
  match x with
  | .slice none 0 0 => some (0, [])
  | .slice (some ⟨_, _, some _⟩) 0 0 => some (0, [])
  | .slice (some ⟨b, o, none⟩) n _ =>
    if n = 0 then some (0, []) else
    match h.get b with
    | some (.cells cs _ _) => if o + n * z ≤ cs.length then some (n, (cs.drop o).take (n * z)) else none
    | _ => none
  | .string s => if z = 1 then some (s.size, s.data.toList.map byteV) else none
  | _ => none

noncomputable def oldsT (z n b o : Nat) (h : HT) : Option (List Value) :=
  if n = 0 then some [] else
  match h.get b with
  | some (.cells cs _ _) => if o + n * z ≤ cs.length then some ((cs.drop o).take (n * z)) else none
  | _ => none

noncomputable def growT (z : Nat) (xs : List Value) (n : Nat) (h : HT) : Value × Eff := (.slice (some ⟨h.n, 0, none⟩) n (capO + n), Eff.push (.cells xs false (some z)))

noncomputable def appendT (P : Program) (t tx : TypeId) (s x : Value) (h : HT) : Option (Value × Eff) :=
  match P.underlying t with
  | some (.slice e) =>
    match infoT P e, P.underlying tx with
    | some (sz, bytes, zs), some dx =>
      if isSrc dx = false then none else
      if zs ≠ sz then none else
      match srcT sz x h with
      | some (m, news) =>
        match s with
        | .slice none 0 0 => if m = 0 then some (.slice none 0 0, Eff.none) else if m * bytes ≤ 140737488355328 ∧ m < 4611686018427387904 then some (growT sz news m h) else none
        | .slice (some ⟨b, o, none⟩) n c =>
          if m = 0 then some (s, Eff.none) else
          if (n + m) * bytes ≤ 140737488355328 ∧ n + m < 4611686018427387904 then
            if c < capO then
              if n + m ≤ c then
                match h.get b with
                | some (.cells cs false op) => if o + (n + m) * sz ≤ cs.length ∧ news.all oneA = true then some (.slice (some ⟨b, o, none⟩) (n + m) c, Eff.set b (.cells (spl cs (o + n * sz) news) false op)) else none
                | _ => none
              else
                match oldsT sz n b o h with
                | some olds => some (growT sz (olds ++ news) (n + m) h)
                | none => none
            else
              match h.get b with
              | some (.cells cs false (some k)) =>
                if k = sz ∧ o + n * sz ≤ cs.length ∧ news.all oneA = true then
                  if n + m ≤ c - capO ∧ o + (n + m) * sz ≤ cs.length then some (.slice (some ⟨b, o, none⟩) (n + m) c, Eff.set b (.cells (spl cs (o + n * sz) news) false (some k)))
                  else some (.slice (some ⟨h.n, 0, Option.none⟩) (n + m) (capO + (n + m)), Eff.swap b .dead (.cells ((cs.drop o).take (n * sz) ++ news) false (some sz)))
                else none
              | _ => none
          else none
        | _ => none
      | none => none
    | _, _ => none
  | _ => none

noncomputable def copyT (P : Program) (t : TypeId) (d x : Value) (h : HT) : Option (Value × Eff) :=
  match P.underlying t with
  | some (.slice e) =>
    match sizeT P e with
    | some z =>
      match srcT z x h, d with
      | some (_, _), .slice none 0 0 => some (.int .i64 0, Eff.none)
      | some (m, xs), .slice (some ⟨b, o, none⟩) n _ =>
        if n = 0 then some (.int .i64 0, Eff.none) else
        match h.get b with
        | some (.cells cs false op) =>
          if o + min m n * z ≤ cs.length ∧ (xs.take (min m n * z)).all oneA = true then some (.int .i64 (min m n : Nat), Eff.set b (.cells (spl cs o (xs.take (min m n * z))) false op)) else none
        | _ => none
      | _, _ => none
    | none => none
  | _ => none

noncomputable def clearT (P : Program) (t : TypeId) (x : Value) (h : HT) : Option Eff :=
  match P.underlying t, x with
  | some (.map _ _), .map none => some Eff.none
  | some (.map _ _), .map (some b) =>
    match h.get b with
    | some (.map _) => some (Eff.set b (.map []))
    | _ => none
  | some (.slice _), .slice none 0 0 => some Eff.none
  | some (.slice e), .slice (some ⟨b, o, none⟩) n _ =>
    if n = 0 then some Eff.none else
    match h.get b, sizeT P e, zeroT P e with
    | some (.cells cs false op), some z, some zero => if zero.length = z ∧ o + n * z ≤ cs.length ∧ (zeros zero n).all oneA = true then some (Eff.set b (.cells (spl cs o (zeros zero n)) false op)) else none
    | _, _, _ => none
  | _, _ => none

noncomputable def lookupT (P : Program) (t : TypeId) (m k : Value) (ok : Bool) (h : HT) : Option Value :=
  match P.underlying t with
  | some (.map kt et) =>
    match P.underlying kt, zeroV P et with
    | some d, some z =>
      if keyOk d k = true then
        match m with
        | .map none => some (if ok then .tuple #[z, .bool false] else z)
        | .map (some b) =>
          match h.get b with
          | some (.map es) =>
            match findA d k es 0 with
            | some (some (_, v)) => some (if ok then .tuple #[v, .bool true] else v)
            | some none => some (if ok then .tuple #[z, .bool false] else z)
            | none => none
          | _ => none
        | _ => none
      else none
    | _, _ => none
  | _ => none

noncomputable def mapUpdateT (P : Program) (t : TypeId) (m k v : Value) (h : HT) : Option Eff :=
  match P.underlying t, m with
  | some (.map kt _), .map (some b) =>
    match P.underlying kt, h.get b with
    | some d, some (.map es) => if keyOk d k = true then (putA d k v es).map fun es' => Eff.set b (.map es') else none
    | _, _ => none
  | _, _ => none

noncomputable def rangeT (P : Program) (t : TypeId) (x : Value) (h : HT) : Option (Value × Eff) :=
  match P.underlying t, x with
  | some .string, .string s => some (.pointer (some ⟨h.n, 0, none⟩), Eff.push (.siter s 0))
  | _, _ => none

noncomputable def nextT (it : Value) (isString : Bool) (h : HT) : Option (Value × Eff) :=
  match it, isString with
  | .pointer (some ⟨b, 0, none⟩), true =>
    match h.get b with
    | some (.siter s pos) =>
      if pos < s.size then some (.tuple #[.bool true, .int .i64 (pos : Nat), .int .i32 (Utf8.decode s pos).1], Eff.set b (.siter s (pos + (Utf8.decode s pos).2)))
      else some (.tuple #[.bool false], Eff.none)
    | _ => none
  | _, _ => none

noncomputable def deleteT (P : Program) (t : TypeId) (m k : Value) (h : HT) : Option Eff :=
  match P.underlying t with
  | some (.map kt _) =>
    match P.underlying kt with
    | some d =>
      if keyOk d k = true then
        match m with
        | .map none => some Eff.none
        | .map (some b) =>
          match h.get b with
          | some (.map es) =>
            match findA d k es 0 with
            | some (some (i, _)) => some (Eff.set b (.map (es.eraseIdx i)))
            | some none => some Eff.none
            | none => none
          | _ => none
        | _ => none
      else none
    | none => none
  | _ => none

noncomputable def lenT (P : Program) (t : TypeId) (x : Value) (h : HT) : Option Value :=
  match P.underlying t, x with
  | some .string, .string s => some (.int .i64 (s.size : Nat))
  | some (.slice _), .slice none 0 0 => some (.int .i64 0)
  | some (.slice _), .slice (some ⟨_, _, some _⟩) 0 0 => some (.int .i64 0)
  | some (.slice _), .slice (some ⟨_, _, none⟩) n _ => some (.int .i64 (n : Nat))
  | some (.map _ _), .map none => some (.int .i64 0)
  | some (.map _ _), .map (some b) =>
    match h.get b with
    | some (.map es) => some (.int .i64 (es.length : Nat))
    | _ => none
  | some (.array n _), .agg _ => some (.int .i64 (n : Nat))
  | _, _ => none

noncomputable def sliceT (P : Program) (t : TypeId) (x : Value) (lo hi mx : Option Value) (h : HT) : Option Value :=
  match P.underlying t, x with
  | some .string, .string s =>
    match mx with
    | none => match bndsA s.size s.size lo hi none with
      | some (l, h, _) => some (.string (s.extract l h))
      | none => none
    | some _ => none
  | some (.slice e), .slice none 0 0 =>
    match sizeT P e, bndsA 0 0 lo hi mx with
    | some _, some _ => some (.slice none 0 0)
    | _, _ => none
  | some (.slice e), .slice (some ⟨b, o, none⟩) n c =>
    match sizeT P e with
    | some z =>
      if c < capO then
        match bndsA n c lo hi mx with
        | some (l, hh, m) => some (.slice (some ⟨b, if m = l then o else o + l * z, none⟩) (hh - l) (m - l))
        | none => none
      else
        match bndsA n (c - capO) lo hi mx with
        | some (l, hh, m) =>
          match mx with
          | some _ => if m < capO then some (.slice (some ⟨b, if m = l then o else o + l * z, none⟩) (hh - l) (m - l)) else none
          | none =>
            match h.get b with
            | some (.cells _ _ (some k)) => if k = z then some (.slice (some ⟨b, o + l * z, none⟩) (hh - l) (capO + (c - capO - l))) else none
            | _ => none
        | none => none
    | none => none
  | _, _ => none

end Go.Ab

/- The evaluator of closed calls over tree heaps, second part: statements and calls; no condition. -/
namespace Go.Ab
open Go.RowKit

inductive ResT where
  | val (v : Value) (e : Eff)
  | enter (f : FuncId) (args : List Value)
  | round (b : Nat) (args : List Value)
abbrev RunT := FT → HT → Option ResT
def vT (r : Option Value) : Option ResT := match r with
  | some v => some (.val v .none)
  | none => none
def pT (r : Option (Value × Eff)) : Option ResT := match r with
  | some (v, e) => some (.val v e)
  | none => none
def uT (r : Option Eff) : Option ResT := match r with
  | some e => some (.val any e)
  | none => none
noncomputable def pureT (P : Program) (o : Op) : RunT := fun fr _ => match opA P (evalA fr.get) o [] with
  | some (.val v _) => some (.val v .none)
  | _ => none
noncomputable def newT (P : Program) (o : Op) : RunT := fun fr h => match newA P (evalA fr.get) o with
  | some (B, f) => some (.val (f h.n) (.push B))
  | none => none
noncomputable def load1T (p : Value) (h : HT) : Option Value :=
  match p with
  | .pointer (some ⟨b, o, none⟩) => match h.get b with
    | some (.cells cs _ _) => lget cs o
    | _ => none
  | _ => none
noncomputable def ldT (P : Program) (t : TypeId) : Value → HT → Option Value := match aggT P t with
  | some false => load1T
  | _ => loadT P t
/-- one cell of a list, written -/
noncomputable def setL (x : Value) (l : List Value) : Nat → List Value :=
  List.rec (motive := fun _ => Nat → List Value) (fun _ => []) (fun y ys ih i => Nat.rec (motive := fun _ => List Value) (x :: ys) (fun j _ => y :: ih j) i) l
noncomputable def store1T (p x : Value) (h : HT) : Option Eff :=
  match p with
  | .pointer (some ⟨b, o, none⟩) => match h.get b with
    | some (.cells cs false op) => match oneA x with
      | true => bif Nat.ble (Nat.succ o) cs.length then some (Eff.set b (.cells (setL x cs o) false op)) else none
      | false => none
    | _ => none
  | _ => none
noncomputable def stT (P : Program) (t : TypeId) : Value → Value → HT → Option Eff := match aggT P t, sizeT P t with
  | some false, some 1 => store1T
  | _, _ => storeT P t
def topK (k : IntKind) : Nat := match k with
  | .i8 => 127 | .u8 => 255 | .i16 => 32767 | .u16 => 65535 | .i32 => 2147483647 | .u32 => 4294967295 | .i64 => 9223372036854775807 | .u64 => 18446744073709551615
def wrapT (k : IntKind) (n : Int) : Int :=
  match n with
  | .ofNat j => bif Nat.ble j (topK k) then .ofNat j else k.wrap (.ofNat j)
  | n => k.wrap n
noncomputable def binT (P : Program) (op : BinOp) (t : TypeId) (x y : Operand) : Option (Value → Value → Option Value) :=
  match op with
  | .add => some fun a b => arM (fun k n m => wrapT k (n + m)) (binA P .add t x y) a b
  | .sub => some fun a b => arM (fun k n m => wrapT k (n - m)) (binA P .sub t x y) a b
  | op => binM P op t x y
noncomputable def builtinT (P : Program) (b : Builtin) (ts : List TypeId) (xs : List Value) (h : HT) : Option ResT :=
  match b, ts, xs with
  | .append, [t, tx], [s, x] => pT (appendT P t tx s x h)
  | .copy, [t, _], [d, x] => pT (copyT P t d x h)
  | .len, [t], [x] => vT (lenT P t x h)
  | .clear, [t], [x] => uT (clearT P t x h)
  | .cap, [t], [x] => vT (capA P t x)
  | .delete, [t, _], [m, k] => uT (deleteT P t m k h)
  | .max, _, xs => vT (mmA true xs)
  | .min, _, xs => vT (mmA false xs)
  | _, _, _ => none
noncomputable def valT (f : Value) (xs : List Value) : Option ResT :=
  match f with
  | .func (.func g) first captured => some (.enter g (first.toList ++ xs ++ captured.toList))
  | .func (.yield b) _ _ => some (.round b xs)
  | _ => none
/-- how an operand is read -/
noncomputable def opdK {R : Type} (x : Operand) (k : (FT → Value) → R) : R := match x with
  | .tmp i => getK i k
  | .const v => tVal (gr v) fun v => k fun _ => v
  | x => k fun fr => evalA fr.get x
noncomputable def opdsK {R : Type} (l : List Operand) : ((FT → List Value) → R) → R :=
  List.rec (motive := fun _ => ((FT → List Value) → R) → R) (fun k => k fun _ => []) (fun x _ ih k => opdK x fun g => ih fun gs => k fun fr => g fr :: gs fr) l
noncomputable def opT {R : Type} (P : Program) (o : Op) (k : RunT → Option R) : Option R :=
  match o with
  | .load t a => opdK a fun a => k fun fr h => vT (ldT P t (a fr) h)
  | .binOp op t x y _ => match binT P op t x y with
    | some f => opdK x fun x => opdK y fun y => k fun fr _ => vT (f (x fr) (y fr))
    | none => none
  | .indexAddr t x i => match P.underlying t with
    | some (.slice e) => match sizeT P e with
      | some z => opdK x fun x => opdK i fun i => k fun fr _ => vT (idxM z (x fr) (i fr))
      | none => none
    | _ => opdK x fun x => opdK i fun i => k fun fr _ => vT (indexAddrA P t (x fr) (i fr))
  | .index t x i => match P.underlying t with
    | some .string => opdK x fun x => opdK i fun i => k fun fr _ => vT (idxS (x fr) (i fr))
    | _ => opdK x fun x => opdK i fun i => k fun fr _ => vT (indexA P t (x fr) (i fr))
  | .pick c a b => opdK c fun c => opdK a fun a => opdK b fun b => k fun fr _ => vT (pickA (c fr) (a fr) (b fr))
  | .store t a x => opdK a fun a => opdK x fun x => k fun fr h => uT (stT P t (a fr) (x fr) h)
  | .nilCheck x => opdK x fun x => k fun fr _ => vT (nilCheckA (x fr))
  | .unOp op _ x => opdK x fun x => k fun fr _ => vT (unA op (x fr))
  | .convert s d x => opdK x fun x => k fun fr h => pT (convT P s d (x fr) h)
  | .slice t x lo hi mx => opdK x fun x => k fun fr h => vT (sliceT P t (x fr) (lo.map (evalA fr.get)) (hi.map (evalA fr.get)) (mx.map (evalA fr.get)) h)
  | .fieldAddr t x f => opdK x fun x => k fun fr _ => vT (fieldAddrA P t (x fr) f)
  | .field t x f => opdK x fun x => k fun fr _ => vT (fieldA P t (x fr) f)
  | .extract t i => opdK t fun t => k fun fr _ => vT (extractA (t fr) i)
  | .lookup t m x ok => opdK m fun m => opdK x fun x => k fun fr h => vT (lookupT P t (m fr) (x fr) ok h)
  | .mapUpdate t m y x => opdK m fun m => opdK y fun y => opdK x fun x => k fun fr h => uT (mapUpdateT P t (m fr) (y fr) (x fr) h)
  | .insert t m y x => opdK m fun m => opdK y fun y => opdK x fun x => k fun fr h => uT (mapUpdateT P t (m fr) (y fr) (x fr) h)
  | .range t x => opdK x fun x => k fun fr h => pT (rangeT P t (x fr) h)
  | .next it s => opdK it fun it => k fun fr h => pT (nextT (it fr) s h)
  | .call ⟨.builtin b, args, ts⟩ => opdsK args.toList fun xs => k fun fr h => builtinT P b ts.toList (xs fr) h
  | .call ⟨.value f, args, _⟩ => opdK f fun f => opdsK args.toList fun xs => k fun fr _ => valT (f fr) (xs fr)
  | o => match cls o with
    | 0 => k (pureT P o)
    | 3 => k (newT P o)
    | _ => none
noncomputable def pW {R : Type} (n : Nat) (fr : FT) (d : Option Tmp) (v : Value) (k : FT → Option R) : Option R := match d with
  | none => k fr
  | some d => bif Nat.ble (Nat.succ d) n then fr.putK d v k else none

/-! ### statements -/
structure RecsT where
  call : FuncId → List Value → HT → Option (Value × HT)
  code : Nat → Code → FT → HT → Option (Exit × FT × HT)
noncomputable def loadU {R : Type} (n : Nat) (g : Nat → Value) (k : FT → Option R) (i : Nat) : FT → Option R :=
  Nat.rec (motive := fun _ => FT → Option R) k (fun i ih t => pW n t (some i) (g i) ih) i
noncomputable def psU {R : Type} (n : Nat) (k : FT → Option R) (l : List (Tmp × Value)) : FT → Option R :=
  List.rec (motive := fun _ => FT → Option R) k (fun p _ ih t => pW n t (some p.1) p.2 ih) l
/-- a round of a loop over a function -/
noncomputable def roundT (rec : RecsT) (b : Nat) (args : List Value) (h : HT) : Option (Value × HT) :=
  match h.get b with
  | some (.loop L) => match hasRF L.assign, hasRF L.body with
    | false, false =>
      bif Nat.beq args.length L.ps.size && Nat.ble L.n 512 then
        loadU L.n L.fr (psU L.n (fun t =>
          match rec.code L.n L.assign t h with
          | some (.normal, t, h1) => match h1.get b with
            | some (.loop L1) => match L1.st with
              | .ready => h1.put b (.loop (busyL L1)) fun h1 => match rec.code L.n L.body t h1 with
                | some (e, _, h2) => match h2.get b with
                  | some (.loop L2) => match e with
                    | .normal => h2.put b (.loop (readyL L2)) fun h => some (.bool true, h)
                    | .ret => h2.put b (.loop (doneL L2 .ret)) fun h => some (.bool false, h)
                    | .exit id => h2.put b (.loop (doneL L2 (.exit id))) fun h => some (.bool false, h)
                    | _ => none
                  | _ => none
                | none => none
              | _ => none
            | _ => none
          | _ => none) (L.ps.toList.zip args)) L.n .new
      else none
    | _, _ => none
  | _ => none
abbrev PutT := FT → Value → (FT → Option (FT × HT)) → Option (FT × HT)
inductive MOpT where
  | mov (p : PutT) (x : FT → Value)
  | movG (g : FT → Value) (want : Bool) (p : PutT) (x : FT → Value)
  | op (p : PutT) (run : RunT)
  | opG (g : FT → Value) (want : Bool) (p : PutT) (run : RunT)
noncomputable def putD {R : Type} (n : Nat) (d : Option Tmp) (k : PutT → Option R) : Option R := match d with
  | none => k fun fr _ k => k fr
  | some d => bif Nat.ble (Nat.succ d) n then putWK d k else none
noncomputable def actD (P : Program) (n : Nat) (o : Oper) (mv : PutT → (FT → Value) → MOpT) (op : PutT → RunT → MOpT) : Option MOpT := putD n o.dst fun p => match o.op with
  | .move x => opdK x fun x => some (mv p x)
  | .assign x => opdK x fun x => some (mv p x)
  | o => opT P o fun r => some (op p r)
noncomputable def compT (P : Program) (n : Nat) (ops : Array Oper) (o : Oper) : Option MOpT :=
  match o.guard with
  | none => actD P n o .mov .op
  | some (j, want) => match (ops[j]?).bind (·.dst) with
    | none => none
    | some d => getK d fun g => sBool want fun want => actD P n o (.movG g want) (.opG g want)
noncomputable def wantT {R : Type} (g : Value) (want : Bool) (yes no : Unit → Option R) : Option R := match g with
  | .bool b => match b with
    | true => match want with
      | true => yes ()
      | false => no ()
    | false => match want with
      | true => no ()
      | false => yes ()
  | .float .f32 0 => no ()
  | _ => none
noncomputable def tVF : Value → (Value → Option (FT × HT)) → Option (FT × HT) := Value.rec (motive_1 := fun _ => (Value → Option (FT × HT)) → Option (FT × HT)) (motive_2 := fun _ => Unit) (motive_3 := fun _ => Unit)
  (fun b k => Bool.rec (k (.bool false)) (k (.bool true)) b)
  (fun kd n k => Int.rec (fun n => sNat n fun n => k (.int kd (.ofNat n))) (fun n => sNat n fun n => k (.int kd (.negSucc n))) n)
  (fun k b kk => kk (.float k b))
  (fun k r i kk => kk (.complex k r i))
  (fun s kk => tVal (.string s) kk)
  (fun a k => Option.rec (k (.pointer none)) (fun ad => Addr.rec (fun b o s => sNat b fun b => sNat o fun o => k (.pointer (some ⟨b, o, s⟩))) ad) a)
  (fun a n c kk => tVal (.slice a n c) kk)
  (fun r kk => tVal (.map r) kk)
  (fun r kk => kk (.chan r))
  (fun f x y _ _ kk => kk (.func f x y))
  (fun  kk => kk (.nilFunc))
  (fun t v _ kk => kk (.iface t v))
  (fun  kk => kk (.nilIface))
  (fun c _ kk => tVal (.agg c) kk)
  (fun c _ kk => tVal (.tuple c) kk)
  (fun _ _ => ()) () (fun _ _ _ _ => ())
noncomputable def stepT (rec : RecsT) (p : PutT) (run : RunT) (ih : FT → HT → Option (FT × HT)) (fr : FT) (h : HT) : Option (FT × HT) :=
  match run fr h with
  | some (.val v e) => tVF v fun v => onT h e fun h => p fr v fun fr => ih fr h
  | some (.enter g args) => match rec.call g args h with
    | some (r, h) => p fr r fun fr => ih fr h
    | none => none
  | some (.round b args) => match roundT rec b args h with
    | some (r, h) => p fr r fun fr => ih fr h
    | none => none
  | none => none
noncomputable def doT (rec : RecsT) (m : MOpT) (ih : FT → HT → Option (FT × HT)) (fr : FT) (h : HT) : Option (FT × HT) :=
  match m with
  | .mov p x => p fr (x fr) fun fr => ih fr h
  | .movG g want p x => wantT (g fr) want (fun _ => p fr (x fr) fun fr => ih fr h) (fun _ => p fr sk fun fr => ih fr h)
  | .op p run => stepT rec p run ih fr h
  | .opG g want p run => wantT (g fr) want (fun _ => stepT rec p run ih fr h) (fun _ => p fr sk fun fr => ih fr h)
noncomputable def opsT (P : Program) (rec : RecsT) (n : Nat) (ops : Array Oper) (l : List Oper) : FT → HT → Option (FT × HT) :=
  List.rec (motive := fun _ => FT → HT → Option (FT × HT)) (fun fr h => some (fr, h)) (fun o _ ih fr h =>
    Option.rec (motive := fun _ => Option (FT × HT)) none (fun m => doT rec m ih fr h) (compT P n ops o)) l

/-! an order for a statement whose order is drawn -/
noncomputable def seesT (f : RunT) (fr : FT) (v : Value) (g : HT) : Bool :=
  match f fr g with
  | some (.val v' _) => vEq 5 v' v
  | _ => false
noncomputable def keptT (b : Nat) (B : Blk) (g : HT) : Bool :=
  match g.get b with
  | some B' => bEq B' B
  | none => false
noncomputable def lookT2 (f : RunT) (n : Nat) (i : Nat) (o : Oper) (ih : FT → HT → (List Nat → HT → Bool) → Option (FT × HT)) (fr : FT) (h : HT) (C : List Nat → HT → Bool) : Option (FT × HT) :=
  match f fr h with
  | some (.val v _) => tVal v fun v => pW n fr o.dst v fun fr' => ih fr' h (fun A g => C A g && (A.contains i || seesT f fr v g))
  | _ => none
noncomputable def actT (f : RunT) (rec : RecsT) (n : Nat) (ops : Array Oper) (i : Nat) (o : Oper) (ih : FT → HT → (List Nat → HT → Bool) → Option (FT × HT)) (fr : FT) (h : HT) (C : List Nat → HT → Bool) : Option (FT × HT) :=
  match f fr h with
  | some (.val v e) => tVal v fun v => onT h e fun h' => bif C (preds ops i) h' then pW n fr o.dst v fun fr => ih fr h' C else none
  | some (.enter f args) => match rec.call f args h with
    | some (r, h') => bif C (preds ops i) h' then pW n fr o.dst r fun fr => ih fr h' C else none
    | none => none
  | some (.round b args) => match roundT rec b args h with
    | some (r, h') => bif C (preds ops i) h' then pW n fr o.dst r fun fr => ih fr h' C else none
    | none => none
  | none => none
noncomputable def drT (P : Program) (rec : RecsT) (n : Nat) (ops : Array Oper) : List Nat → FT → HT → (List Nat → HT → Bool) → Option (FT × HT)
  | [], fr, h, _ => some (fr, h)
  | i :: rem, fr, h, C =>
    match ops[i]? with
    | none => none
    | some o => match wantA ops o fr.get with
      | none => none
      | some false => pW n fr o.dst sk fun fr => drT P rec n ops rem fr h C
      | some true => match opT P o.op some with
        | none => none
        | some f => match cls o.op with
          | 0 => match f fr h with
            | some (.val v _) => tVal v fun v => pW n fr o.dst v fun fr => drT P rec n ops rem fr h C
            | _ => none
          | 1 => lookT2 f n i o (drT P rec n ops rem) fr h C
          | 2 => bif isEff o.op then actT f rec n ops i o (drT P rec n ops rem) fr h C else none
          | _ => match newA P (evalA fr.get) o.op with
            | some (B, f) => h.push B fun h' => bif C [] h' then tVal (f h.n) fun v => pW n fr o.dst v fun fr => drT P rec n ops rem fr h' (fun A g => C A g && (A.contains i || keptT h.n B g)) else none
            | none => lookT2 f n i o (drT P rec n ops rem) fr h C
noncomputable def iterT (f : FT → HT → Option (Exit × FT × HT)) (k : Nat) : FT → HT → Option (Exit × FT × HT) :=
  Nat.rec (motive := fun _ => FT → HT → Option (Exit × FT × HT)) (fun _ _ => none) (fun _ ih fr h => match f fr h with
    | some (.normal, fr, h) => ih fr h
    | r => r) k
abbrev CodeT := FT → HT → Option (Exit × FT × HT)
noncomputable def regionT (P : Program) (rec : RecsT) (n : Nat) (ops : Array Oper) (draw : Bool) : CodeT := match draw with
  | false => fun fr h => match opsT P rec n ops ops.toList fr h with
    | some (fr, h) => some (.normal, fr, h)
    | none => none
  | true => fun fr h => bif planOk n ops (mkPlan ops ops.size []) then match drT P rec n ops (mkPlan ops ops.size []) fr h (fun _ _ => true) with
      | some (fr, h) => some (.normal, fr, h)
      | none => none
    else none
noncomputable def seqT (x y : CodeT) : CodeT := fun fr h => match x fr h with
    | some (.normal, fr, h) => y fr h
    | r => r
noncomputable def condT (c : Operand) (x y : CodeT) : CodeT := fun fr h => match evalA fr.get c with
    | .bool true => x fr h
    | .bool false => y fr h
    | _ => none
noncomputable def blockT (id : Nat) (c : CodeT) : CodeT := fun fr h => match c fr h with
    | some (.exit id', fr, h) => bif Nat.beq id' id then some (.normal, fr, h) else some (.exit id', fr, h)
    | r => r
noncomputable def rangeFT (rec : RecsT) (n : Nat) (g : Operand) (ps : Array Tmp) (x y : Code) : CodeT := fun fr h => match evalA fr.get g with
    | .func (.func gf) first cap => h.push (.loop { st := .ready, pend := none, n := n, fr := fr.get, ps := ps, assign := x, body := y }) fun h1 =>
      match rec.call gf (first.toList ++ [.func (.yield h.n) #[] #[]] ++ cap.toList) h1 with
      | some (_, h') => match h'.get h.n with
        | some (.loop L) => match L.st, L.pend with
          | .busy, _ => none
          | _, none => h'.put h.n .dead fun h => some (.normal, fr, h)
          | _, some .ret => h'.put h.n .dead fun h => some (.ret, fr, h)
          | _, some (.exit id) => h'.put h.n .dead fun h => some (.exit id, fr, h)
          | _, _ => none
        | _ => none
      | none => none
    | _ => none
noncomputable def codeT (P : Program) (rec : RecsT) (n : Nat) (c : Code) : CodeT :=
  Code.rec (motive := fun _ => CodeT)
    (skip := fun fr h => some (.normal, fr, h))
    (region := fun _ ops draw => regionT P rec n ops draw)
    (seq := fun _ _ x y => seqT x y)
    (cond := fun c _ _ x y => condT c x y)
    (block := fun id _ c => blockT id c)
    (loop := fun _ c => iterT c 100000)
    (rangeFunc := fun g ps x y _ _ => rangeFT rec n g ps x y)
    (exit := fun id fr h => some (.exit id, fr, h))
    (scope := fun _ _ _ _ => none)
    (label := fun _ fr h => some (.normal, fr, h))
    (goto := fun _ _ _ => none)
    (ret := fun fr h => some (.ret, fr, h))
    (refuse := fun _ _ _ => none) c
noncomputable def argsT {R : Type} (n : Nat) (k : FT → Option R) (l : List Value) : Nat → FT → Option R :=
  List.rec (motive := fun _ => Nat → FT → Option R) (fun _ t => k t) (fun v _ ih i t => tVal v fun v => pW n t (some i) v fun t => ih (Nat.succ i) t) l
noncomputable def resT (P : Program) (h : HT) (fr : Fr) : ResultVar → Option Value
  | .tmp t => some (fr t)
  | .cell a t => loadT P t (fr a) h
noncomputable def resultsT (P : Program) (fr : Fr) (h : HT) : List ResultVar → Option (List Value)
  | [] => some []
  | r :: rs => match resT P h fr r, resultsT P fr h rs with
    | some v, some vs => some (v :: vs)
    | _, _ => none
/-- a function, read once -/
noncomputable def funT (P : Program) (rec : RecsT) (f : FuncId) : List Value → HT → Option (Value × HT) :=
  match P.funcs[f]? with
  | none => fun _ _ => none
  | some fn => match fn.body with
    | none => fun _ _ => none
    | some c => bif callable P f && Nat.ble fn.ntmps 512 then fun args h => argsT fn.ntmps (fun fr => match codeT P rec fn.ntmps c fr h with
        | some (.normal, fr, h) => match resultsT P fr.get h fn.results.toList with
          | some vs => tVal (tupA vs) fun v => some (v, h)
          | none => none
        | some (.ret, fr, h) => match resultsT P fr.get h fn.results.toList with
          | some vs => tVal (tupA vs) fun v => some (v, h)
          | none => none
        | _ => none) args 0 .new
      else fun _ _ => none
noncomputable def recT (P : Program) (t : Known) (base : FuncId → Bool) (k : Nat) : RecsT :=
  Nat.rec (motive := fun _ => RecsT) ⟨fun _ _ _ => none, fun _ _ _ _ => none⟩ (fun _ ih => ⟨fun f args h => bif base f then match lookT t f args with
      | some r => some (r, h)
      | none => match funT P ih f args ⟨0, .nil⟩ with
        | some (r, _) => bif flat r && args.all flat then some (r, h) else none
        | none => none
    else funT P ih f args h, fun n c => codeT P ih n c⟩) k
end Go.Ab

/- Tree heaps: laws; no condition. The first part is printed by gen24.py. -/
namespace Go.Ab
open Go.RowKit
namespace HTr
theorem get_nil (i : Nat) : get .nil i = .dead := rfl
theorem get_node (v : Blk) (l r : HTr) (i : Nat) : get (.node v l r) i = if i = 0 then v else if i % 2 = 1 then get l (i / 2) else get r (i / 2 - 1) := by
  show Bool.rec (motive := fun _ => Blk) (Bool.rec (motive := fun _ => Blk) (get r (Nat.pred (Nat.div i 2))) (get l (Nat.div i 2)) (Nat.beq (Nat.mod i 2) 1)) v (Nat.beq i 0) = _
  rw [brec, brec]
  simp only [Nat.beq_eq]
  rfl
theorem sing_succ {R : Type} (n i : Nat) (x : Blk) (k : HTr → R) : sing (n + 1) i x k = if i = 0 then k (.node x .nil .nil) else if i % 2 = 1 then sing n (i / 2) x (fun l => k (.node .dead l .nil)) else sing n (i / 2 - 1) x (fun r => k (.node .dead .nil r)) := by
  show Bool.rec (motive := fun _ => R) (Bool.rec (motive := fun _ => R) (sing n (Nat.pred (Nat.div i 2)) x (fun r => k (.node .dead .nil r))) (sing n (Nat.div i 2) x (fun l => k (.node .dead l .nil))) (Nat.beq (Nat.mod i 2) 1)) (k (.node x .nil .nil)) (Nat.beq i 0) = _
  rw [brec, brec]
  simp only [Nat.beq_eq]
  rfl
theorem sing_spec {R : Type} : ∀ (n i : Nat) (x : Blk) (k : HTr → R), i + 1 < 2 ^ n → ∃ t, sing n i x k = k t ∧ ∀ j, get t j = if j = i then x else .dead := by
  intro n
  induction n with
  | zero => intro i x k h; simp at h
  | succ n ih =>
    intro i x k h
    rw [Nat.pow_succ] at h
    rw [sing_succ]
    split
    · rename_i h0
      subst h0
      refine ⟨_, rfl, fun j => ?_⟩
      rw [get_node]
      split
      · rfl
      · split <;> rfl
    · rename_i h0
      split
      · rename_i h1
        obtain ⟨t, e1, e2⟩ := ih (i / 2) x (fun l => k (.node .dead l .nil)) (by omega)
        refine ⟨_, e1, fun j => ?_⟩
        rw [get_node]
        split
        · rename_i hj; rw [if_neg (by omega)]
        · split
          · rw [e2]
            by_cases hji : j = i
            · rw [if_pos hji, if_pos (by omega)]
            · rw [if_neg hji, if_neg (by omega)]
          · rw [if_neg (by omega)]; rfl
      · rename_i h1
        obtain ⟨t, e1, e2⟩ := ih (i / 2 - 1) x (fun r => k (.node .dead .nil r)) (by omega)
        refine ⟨_, e1, fun j => ?_⟩
        rw [get_node]
        split
        · rename_i hj; rw [if_neg (by omega)]
        · split
          · rw [if_neg (by omega)]; rfl
          · rw [e2]
            by_cases hji : j = i
            · rw [if_pos hji, if_pos (by omega)]
            · rw [if_neg hji, if_neg (by omega)]
theorem putK_nil {R : Type} (i : Nat) (x : Blk) (k : HTr → R) : putK .nil i x k = sing 14 i x k := rfl
theorem putK_node {R : Type} (v : Blk) (l r : HTr) (i : Nat) (x : Blk) (k : HTr → R) : putK (.node v l r) i x k = if i = 0 then k (.node x l r) else if i % 2 = 1 then putK l (i / 2) x (fun l => k (.node v l r)) else putK r (i / 2 - 1) x (fun r => k (.node v l r)) := by
  show Bool.rec (motive := fun _ => R) (Bool.rec (motive := fun _ => R) (putK r (Nat.pred (Nat.div i 2)) x (fun r => k (.node v l r))) (putK l (Nat.div i 2) x (fun l => k (.node v l r))) (Nat.beq (Nat.mod i 2) 1)) (k (.node x l r)) (Nat.beq i 0) = _
  rw [brec, brec]
  simp only [Nat.beq_eq]
  rfl
theorem putK_spec {R : Type} (t : HTr) : ∀ (i : Nat) (x : Blk) (k : HTr → R), i < 16000 → ∃ t', putK t i x k = k t' ∧ ∀ j, get t' j = if j = i then x else get t j := by
  induction t with
  | nil =>
    intro i x k h
    obtain ⟨t, e1, e2⟩ := sing_spec 14 i x k (by omega)
    exact ⟨t, e1, e2⟩
  | node v l r ihl ihr =>
    intro i x k h
    rw [putK_node]
    split
    · rename_i h0
      subst h0
      refine ⟨_, rfl, fun j => ?_⟩
      rw [get_node, get_node]
      split <;> rfl
    · rename_i h0
      split
      · rename_i h1
        obtain ⟨t, e1, e2⟩ := ihl (i / 2) x (fun l => k (.node v l r)) (by omega)
        refine ⟨_, e1, fun j => ?_⟩
        rw [get_node, get_node]
        split
        · rename_i hj; rw [if_neg (by omega)]
        · split
          · rw [e2]
            by_cases hji : j = i
            · rw [if_pos hji, if_pos (by omega)]
            · rw [if_neg hji, if_neg (by omega)]
          · rw [if_neg (by omega)]
      · rename_i h1
        obtain ⟨t, e1, e2⟩ := ihr (i / 2 - 1) x (fun r => k (.node v l r)) (by omega)
        refine ⟨_, e1, fun j => ?_⟩
        rw [get_node, get_node]
        split
        · rename_i hj; rw [if_neg (by omega)]
        · split
          · rw [if_neg (by omega)]
          · rw [e2]
            by_cases hji : j = i
            · rw [if_pos hji, if_pos (by omega)]
            · rw [if_neg hji, if_neg (by omega)]
end HTr

theorem HT.get_eq (h : HT) (b : Nat) : h.get b = if b < h.n then some (h.t.get b) else none := by
  show Bool.rec (motive := fun _ => Option Blk) none (some (HTr.get h.t b)) (Nat.ble (Nat.succ b) h.n) = _
  rw [brec]
  simp only [Nat.ble_eq, Nat.succ_le_iff]
theorem HT.hp_len (h : HT) : h.hp.length = h.n := by simp [HT.hp]
theorem HT.hp_get (h : HT) (b : Nat) : h.hp[b]? = h.get b := by
  rw [HT.get_eq, HT.hp]
  by_cases hb : b < h.n
  · simp [hb]
  · simp [hb]
theorem tList_eq {α R : Type} {f : α → (α → R) → R} (hf : ∀ x k, f x k = k x) (l : List α) : ∀ k, tList f l k = k l := by
  induction l with
  | nil => intro k; rfl
  | cons x l ih => intro k; show f x (fun x => tList f l fun xs => k (x :: xs)) = _; rw [hf, ih]
theorem tStr_eq {R : Type} (s : ByteArray) (k : ByteArray → R) : tStr s k = k s := by
  obtain ⟨⟨l⟩⟩ := s
  simp [tStr, tList_eq sU8_eq]
theorem tVal1_eq {R : Type} (v : Value) (k : Value → R) : tVal1 v k = k v := by
  unfold tVal1; split <;> simp [sNat_eq, sInt_eq, sBool_eq, tStr_eq]
theorem tVal_eq {R : Type} (v : Value) (k : Value → R) : tVal v k = k v := by
  unfold tVal; split <;> simp [tList_eq tVal1_eq, tVal1_eq]
theorem tPair_eq {R : Type} (p : Value × Value) (k : Value × Value → R) : tPair p k = k p := by
  obtain ⟨x, y⟩ := p; simp [tPair, tVal_eq]
theorem tBlk_eq {R : Type} (B : Blk) (k : Blk → R) : tBlk B k = k B := by
  unfold tBlk; split <;> simp [tList_eq tVal1_eq, tList_eq tPair_eq, sNat_eq]
theorem HT.put_inv {R : Type} {h : HT} {b : Nat} {B : Blk} {k : HT → Option R} {r : R} (hp : h.put b B k = some r) : ∃ h', k h' = some r ∧ h'.hp = h.hp.set b B := by
  have hp' : Bool.rec (motive := fun _ => Option R) none (tBlk B fun B => HTr.putK h.t b B fun t => k ⟨h.n, t⟩) (Bool.rec (motive := fun _ => Bool) false (Nat.ble h.n 16000) (Nat.ble (Nat.succ b) h.n)) = some r := hp
  cases h1 : Nat.ble (Nat.succ b) h.n with
  | false => rw [h1] at hp'; cases hp'
  | true =>
    cases h2 : Nat.ble h.n 16000 with
    | false => rw [h1, h2] at hp'; cases hp'
    | true =>
      rw [h1, h2] at hp'
      have hp2 : tBlk B (fun B => HTr.putK h.t b B fun t => k ⟨h.n, t⟩) = some r := hp'
      rw [tBlk_eq] at hp2
      have hb' := Nat.le_of_ble_eq_true h1
      have hn := Nat.le_of_ble_eq_true h2
      obtain ⟨t, e1, e2⟩ := HTr.putK_spec h.t b B (fun t => k ⟨h.n, t⟩) (by omega)
      refine ⟨⟨h.n, t⟩, by rw [← e1]; exact hp2, ?_⟩
      apply List.ext_getElem?
      intro i
      rw [HT.hp_get, HT.get_eq, List.getElem?_set, HT.hp_get, HT.get_eq, HT.hp_len]
      simp only [e2]
      by_cases hi : i = b
      · subst hi; simp
      · rw [if_neg hi, if_neg (Ne.symm hi)]
theorem HT.push_inv {R : Type} {h : HT} {B : Blk} {k : HT → Option R} {r : R} (hp : h.push B k = some r) : ∃ h', k h' = some r ∧ h'.hp = h.hp ++ [B] := by
  have hp' : Bool.rec (motive := fun _ => Option R) none (tBlk B fun B => HTr.putK h.t h.n B fun t => sNat (Nat.succ h.n) fun n => k ⟨n, t⟩) (Nat.ble (Nat.succ h.n) 16000) = some r := hp
  rw [brec, tBlk_eq] at hp'
  split at hp'
  · rename_i hc
    have hn := Nat.le_of_ble_eq_true hc
    obtain ⟨t, e1, e2⟩ := HTr.putK_spec h.t h.n B (fun t => sNat (Nat.succ h.n) fun n => k ⟨n, t⟩) (by omega)
    rw [e1, sNat_eq] at hp'
    refine ⟨_, hp', ?_⟩
    apply List.ext_getElem?
    intro i
    rw [HT.hp_get, HT.get_eq, List.getElem?_append, HT.hp_get, HT.get_eq, HT.hp_len]
    simp only [e2]
    by_cases hi : i < h.n
    · rw [if_pos hi, if_pos hi, if_pos (by omega), if_neg (by omega)]
    · rw [if_neg hi]
      by_cases he : i = h.n
      · subst he; simp
      · rw [if_neg (by omega)]
        rw [List.getElem?_eq_none]; simp; omega
  · cases hp'
theorem onT_inv {R : Type} {h : HT} {e : Eff} {k : HT → Option R} {r : R} (hp : onT h e k = some r) : ∃ h', k h' = some r ∧ h'.hp = e.on h.hp := by
  cases e with
  | none => exact ⟨h, hp, rfl⟩
  | set b B => exact HT.put_inv hp
  | push B => exact HT.push_inv hp
  | swap b B C =>
    obtain ⟨h1, e1, e2⟩ := HT.put_inv (show h.put b B (fun h => h.push C k) = some r from hp)
    obtain ⟨h2, e3, e4⟩ := HT.push_inv e1
    exact ⟨h2, e3, by rw [e4, e2]; rfl⟩
end Go.Ab

/- Tree heaps: the words do what the list's words do; no condition. -/
namespace Go.Ab
open Go.RowKit
section
variable {P : Program}
theorem loadT_ok {t : TypeId} {p : Value} {h : HT} : loadT P t p h = loadA P t p h.hp := by
  unfold loadT loadA; simp only [HT.hp_get]; rfl
theorem srcT_ok {z : Nat} {x : Value} {h : HT} : srcT z x h = srcA z x h.hp := by
  unfold srcT srcA; simp only [HT.hp_get]; rfl
theorem oldsT_ok {z n b o : Nat} {h : HT} : oldsT z n b o h = oldsA z n b o h.hp := by
  unfold oldsT oldsA; simp only [HT.hp_get]; rfl
theorem lookupT_ok {t : TypeId} {m k : Value} {ok : Bool} {h : HT} : lookupT P t m k ok h = lookupA P t m k ok h.hp := by
  unfold lookupT lookupA; simp only [HT.hp_get]; rfl
theorem lenT_ok {t : TypeId} {x : Value} {h : HT} : lenT P t x h = lenA P t x h.hp := by
  unfold lenT lenA; simp only [HT.hp_get]; rfl
theorem sliceT_ok {t : TypeId} {x : Value} {lo hi mx : Option Value} {h : HT} : sliceT P t x lo hi mx h = sliceA P t x lo hi mx h.hp := by
  unfold sliceT sliceA; simp only [HT.hp_get]; rfl
theorem storeT_ok {t : TypeId} {p x : Value} {h : HT} {e : Eff} (hs : storeT P t p x h = some e) : storeA P t p x h.hp = some (e.on h.hp) := by
  unfold storeT at hs
  unfold storeA
  simp only [HT.hp_get]
  repeat' split at hs
  all_goals first | (simp at hs; done) | (simp at hs; subst hs; simp [*, Eff.on])
theorem clearT_ok {t : TypeId} {x : Value} {h : HT} {e : Eff} (hs : clearT P t x h = some e) : clearA P t x h.hp = some (e.on h.hp) := by
  unfold clearT at hs
  unfold clearA
  simp only [HT.hp_get, HT.hp_len]
  repeat' split at hs
  all_goals first | (simp at hs; done) | (simp at hs; subst hs; simp [*, Eff.on]) | (simp at hs; obtain ⟨rfl, rfl⟩ := hs; simp [*, Eff.on, HT.hp_len])
theorem deleteT_ok {t : TypeId} {m k : Value} {h : HT} {e : Eff} (hs : deleteT P t m k h = some e) : deleteA P t m k h.hp = some (e.on h.hp) := by
  unfold deleteT at hs
  unfold deleteA
  simp only [HT.hp_get, HT.hp_len]
  repeat' split at hs
  all_goals first | (simp at hs; done) | (simp at hs; subst hs; simp [*, Eff.on]) | (simp at hs; obtain ⟨rfl, rfl⟩ := hs; simp [*, Eff.on, HT.hp_len])
theorem rangeT_ok {t : TypeId} {x : Value} {h : HT} {v : Value} {e : Eff} (hs : rangeT P t x h = some (v, e)) : rangeA P t x h.hp = some (v, e.on h.hp) := by
  unfold rangeT at hs
  unfold rangeA
  simp only [HT.hp_get, HT.hp_len]
  repeat' split at hs
  all_goals first | (simp at hs; done) | (simp at hs; subst hs; simp [*, Eff.on]) | (simp at hs; obtain ⟨rfl, rfl⟩ := hs; simp [*, Eff.on, HT.hp_len])
theorem convT_ok {s d : TypeId} {x : Value} {h : HT} {v : Value} {e : Eff} (hs : convT P s d x h = some (v, e)) : convA P s d x h.hp = some (v, e.on h.hp) := by
  unfold convT at hs
  unfold convA
  simp only [HT.hp_get, HT.hp_len]
  repeat' split at hs
  all_goals first | (simp at hs; done) | (simp at hs; subst hs; simp [*, Eff.on]) | (simp at hs; obtain ⟨rfl, rfl⟩ := hs; simp [*, Eff.on, HT.hp_len])
theorem nextT_ok {it : Value} {b : Bool} {h : HT} {v : Value} {e : Eff} (hs : nextT it b h = some (v, e)) : nextA it b h.hp = some (v, e.on h.hp) := by
  unfold nextT at hs
  unfold nextA
  simp only [HT.hp_get]
  repeat' split at hs
  all_goals first | (simp at hs; done) | (simp at hs; obtain ⟨rfl, rfl⟩ := hs; simp [*, Eff.on])
theorem copyT_ok {t : TypeId} {d x : Value} {h : HT} {v : Value} {e : Eff} (hs : copyT P t d x h = some (v, e)) : copyA P t d x h.hp = some (v, e.on h.hp) := by
  unfold copyT at hs
  unfold copyA
  simp only [srcT_ok] at hs
  simp only [HT.hp_get]
  repeat' split at hs
  all_goals first | (simp at hs; done) | (simp at hs; obtain ⟨rfl, rfl⟩ := hs; simp [*, Eff.on])
theorem mapUpdateT_ok {t : TypeId} {m k x : Value} {h : HT} {e : Eff} (hs : mapUpdateT P t m k x h = some e) : mapUpdateA P t m k x h.hp = some (e.on h.hp) := by
  unfold mapUpdateT at hs
  unfold mapUpdateA
  simp only [HT.hp_get]
  repeat' split at hs
  all_goals first | (simp at hs; done) | (obtain ⟨es, h1, rfl⟩ := Option.map_eq_some_iff.1 hs; simp [*, Eff.on])
set_option maxHeartbeats 2000000 in
theorem appendT_ok {t tx : TypeId} {x y : Value} {h : HT} {v : Value} {e : Eff} (hs : appendT P t tx x y h = some (v, e)) : appendA P t tx x y h.hp = some (v, e.on h.hp) := by
  unfold appendT at hs
  unfold appendA
  simp only [srcT_ok, oldsT_ok, growT] at hs
  simp only [HT.hp_get, growA, HT.hp_len]
  repeat' split at hs
  all_goals first | (simp at hs; done) | (simp at hs; obtain ⟨rfl, rfl⟩ := hs; simp [*, Eff.on, HT.hp_len])
end
end Go.Ab

/- Wide frames: laws; no condition. -/
namespace Go.Ab
open Go.RowKit
theorem digG_eq {α R : Type} (j : Nat) (k : (W α → α) → R) : digG j k = k (fun w => digG j fun a => a w) := by
  unfold digG; split <;> rfl
theorem getK_eq {R : Type} (i : Nat) (k : (FT → Value) → R) : getK i k = k (fun f => f.get i) := by
  unfold FT.get getK
  cases Nat.ble i 511 with
  | false => rfl
  | true =>
    simp only [cond_true]
    rw [digG_eq, digG_eq, digG_eq]
    congr 1
    funext f
    rw [digG_eq, digG_eq, digG_eq]
/-- a word of eight -/
def W.at {α : Type} (x : W α) (j : Nat) : α := match j with
  | 0 => x.a0 | 1 => x.a1 | 2 => x.a2 | 3 => x.a3 | 4 => x.a4 | 5 => x.a5 | 6 => x.a6 | _ => x.a7
theorem digG_at {α R : Type} (j : Nat) (k : (W α → α) → R) : digG j k = k (fun w => w.at j) := by
  obtain _ | _ | _ | _ | _ | _ | _ | j := j <;> rfl
theorem FT.get_eq (f : FT) (i : Nat) : f.get i = if i < 512 then ((f.at (i / 64)).at (i / 8 % 8)).at (i % 8) else any := by
  unfold FT.get getK
  by_cases h : i < 512
  · rw [if_pos h, show Nat.ble i 511 = true from Nat.ble_eq_true_of_le (by omega)]
    simp only [cond_true, digG_at]
    rfl
  · rw [if_neg h, show Nat.ble i 511 = false from by cases hb : Nat.ble i 511 with | true => (have := Nat.le_of_ble_eq_true hb; omega) | false => rfl]
    rfl
def W.set {α : Type} (x : W α) (j : Nat) (y : α) : W α := match j with
  | 0 => { x with a0 := y } | 1 => { x with a1 := y } | 2 => { x with a2 := y } | 3 => { x with a3 := y } | 4 => { x with a4 := y } | 5 => { x with a5 := y } | 6 => { x with a6 := y } | _ => { x with a7 := y }
theorem W.at_set {α : Type} (x : W α) (j i : Nat) (y : α) (hj : j < 8) (hi : i < 8) : (x.set j y).at i = if i = j then y else x.at i := by
  obtain _ | _ | _ | _ | _ | _ | _ | _ | j := j <;> (try omega) <;> obtain _ | _ | _ | _ | _ | _ | _ | _ | i := i <;> first | omega | rfl
theorem digU_eq {α S R : Type} (j : Nat) (k : (W α → (α → (α → S) → S) → (W α → S) → S) → R) : digU j k = k (fun x g kk => g (x.at j) fun y => kk (x.set j y)) := by
  obtain _ | _ | _ | _ | _ | _ | _ | j := j <;> rfl
def FT.set (f : FT) (i : Nat) (v : Value) : FT := W.set f (i / 64) (W.set (f.at (i / 64)) (i / 8 % 8) (W.set ((f.at (i / 64)).at (i / 8 % 8)) (i % 8) v))
theorem putWK_eq {S R : Type} (i : Nat) (k : (FT → Value → (FT → S) → S) → R) : putWK i k = k (fun f v kk => kk (f.set i v)) := by
  unfold putWK
  simp only [digU_eq]
  rfl
theorem FT.get_set (f : FT) {i : Nat} (v : Value) (hi : i < 512) (j : Nat) : (f.set i v).get j = if j = i then v else f.get j := by
  rw [FT.get_eq, FT.get_eq]
  by_cases hj : j < 512
  · rw [if_pos hj, if_pos hj]
    unfold FT.set
    rw [W.at_set _ _ _ _ (by omega) (by omega)]
    by_cases h1 : j / 64 = i / 64
    · rw [if_pos h1, W.at_set _ _ _ _ (by omega) (by omega)]
      by_cases h2 : j / 8 % 8 = i / 8 % 8
      · rw [if_pos h2, W.at_set _ _ _ _ (by omega) (by omega), h1, h2]
        by_cases h3 : j % 8 = i % 8
        · rw [if_pos h3, if_pos (by omega)]
        · rw [if_neg h3, if_neg (by omega)]
      · rw [if_neg h2, if_neg (by omega), h1]
    · rw [if_neg h1, if_neg (by omega)]
  · rw [if_neg hj, if_neg hj, if_neg (by omega)]
end Go.Ab

/- Operations over tree heaps: what they come to; no condition. -/
namespace Go.Ab
open Go.RowKit
theorem opdK_eq {R : Type} (x : Operand) (k : (FT → Value) → R) : opdK x k = k (fun fr => evalA fr.get x) := by
  unfold opdK; split
  · rw [getK_eq]; rfl
  · rw [tVal_eq]; rfl
  · rfl
theorem opdsK_eq {R : Type} (l : List Operand) : ∀ (k : (FT → List Value) → R), opdsK l k = k (fun fr => l.map (evalA fr.get)) := by
  induction l with
  | nil => intro k; rfl
  | cons x l ih =>
    intro k
    show opdK x (fun g => opdsK l fun gs => k fun fr => g fr :: gs fr) = _
    rw [opdK_eq, ih]; rfl
def ResT.at (h : Hp) : ResT → Res
  | .val v e => .val v (e.on h)
  | .enter f a => .enter f a
  | .round b a => .round b a
section
variable {P : Program} {H : Hp} {x : ResT}
theorem vT_ok {r r' : Option Value} (h : vT r = some x) (hr : ∀ v, r = some v → r' = some v) : rv H r' = some (x.at H) := by
  unfold vT at h; split at h
  · simp at h; subst h; rw [hr _ rfl]; rfl
  · cases h
theorem pT_ok {r : Option (Value × Eff)} {r' : Option (Value × Hp)} (h : pT r = some x) (hr : ∀ v e, r = some (v, e) → r' = some (v, e.on H)) : rp r' = some (x.at H) := by
  unfold pT at h; split at h
  · simp at h; subst h; rw [hr _ _ rfl]; rfl
  · cases h
theorem uT_ok {r : Option Eff} {r' : Option Hp} (h : uT r = some x) (hr : ∀ e, r = some e → r' = some (e.on H)) : ru r' = some (x.at H) := by
  unfold uT at h; split at h
  · simp at h; subst h; rw [hr _ rfl]; rfl
  · cases h
theorem pureT_ok {o : Op} (hc : cls o = 0) {fr : FT} {h : HT} (hx : pureT P o fr h = some x) : opA P (evalA fr.get) o h.hp = some (x.at h.hp) := by
  unfold pureT at hx
  split at hx
  · rename_i v g hv
    simp at hx; subst hx
    have hg := look_same (by omega) (cls_new (by omega) _) hv
    subst hg
    exact cls_pure hc hv
  · cases hx
theorem newT_ok {o : Op} {fr : FT} {h : HT} (hx : newT P o fr h = some x) : opA P (evalA fr.get) o h.hp = some (x.at h.hp) := by
  unfold newT at hx
  split at hx
  · rename_i B f hv
    simp at hx; subst hx
    rw [newA_op hv, HT.hp_len]; rfl
  · cases hx
theorem ldT_ok {t : TypeId} {p v : Value} {h : HT} (hv : ldT P t p h = some v) : loadA P t p h.hp = some v := by
  unfold ldT at hv
  have key : aggT P t = some false ∨ loadT P t p h = some v := by
    cases ht : aggT P t with
    | none => rw [ht] at hv; exact .inr hv
    | some b => cases b with
      | true => rw [ht] at hv; exact .inr hv
      | false => exact .inl rfl
  rcases key with ht | hv
  · rw [ht] at hv
    replace hv : load1T p h = some v := hv
    unfold load1T at hv
    split at hv <;> try (simp at hv; done)
    split at hv <;> try (simp at hv; done)
    rename_i hb
    rw [lget_eq] at hv
    unfold loadA
    simp only [HT.hp_get, hb, ht, hv]
  · rw [← loadT_ok]; exact hv
theorem setL_eq (x : Value) (l : List Value) : ∀ i, i < l.length → setL x l i = spl l i [x] := by
  induction l with
  | nil => intro i h; simp at h
  | cons y l ih =>
    intro i h
    cases i with
    | zero => show (x :: l) = spl (y :: l) 0 [x]; simp [spl]
    | succ i =>
      show y :: setL x l i = _
      rw [ih i (by simpa using h)]
      simp [spl]
theorem stT_ok {t : TypeId} {p y : Value} {h : HT} {e : Eff} (hv : stT P t p y h = some e) : storeA P t p y h.hp = some (e.on h.hp) := by
  unfold stT at hv
  have key : (aggT P t = some false ∧ sizeT P t = some 1) ∨ storeT P t p y h = some e := by
    by_cases hc : aggT P t = some false ∧ sizeT P t = some 1
    · exact .inl hc
    · refine .inr ?_
      revert hv
      generalize aggT P t = a at hc
      generalize sizeT P t = z at hc
      intro hv
      cases a with
      | none => exact hv
      | some b => cases b with
        | true => exact hv
        | false => cases z with
          | none => exact hv
          | some z =>
            obtain _ | _ | z := z
            · exact hv
            · exact (hc ⟨rfl, rfl⟩).elim
            · exact hv
  rcases key with ⟨ht, hs⟩ | hv
  · rw [ht, hs] at hv
    replace hv : store1T p y h = some e := hv
    unfold store1T at hv
    split at hv <;> try (simp at hv; done)
    split at hv <;> try (simp at hv; done)
    split at hv <;> try (simp at hv; done)
    rename_i o _ cs op hb _ hone
    cases hl : Nat.ble (Nat.succ o) cs.length with
    | false => rw [hl] at hv; cases hv
    | true =>
      rw [hl] at hv
      simp at hv; subst hv
      have hl' := Nat.le_of_ble_eq_true hl
      unfold storeA
      simp only [HT.hp_get, hb]
      have hc : cellsOf y = some [y] := by
        cases y <;> simp_all [oneA, cellsOf]
      simp only [hc, hs, Eff.on]
      rw [if_pos ⟨rfl, by simpa using hl', by simp [hone]⟩, setL_eq _ _ _ (by omega)]
  · exact storeT_ok hv
theorem topK_ok (k : IntKind) {j : Nat} (h : j ≤ topK k) : k.wrap (.ofNat j) = .ofNat j := by
  cases k <;> simp [IntKind.wrap, IntKind.bits, IntKind.signed, topK] at h ⊢ <;> omega
theorem wrapT_eq (k : IntKind) (n : Int) : wrapT k n = k.wrap n := by
  unfold wrapT
  split
  · rename_i j
    cases hl : Nat.ble j (topK k) with
    | false => rfl
    | true => exact (topK_ok k (Nat.le_of_ble_eq_true hl)).symm
  · rfl
theorem binT_ok {op : BinOp} {t : TypeId} {y z : Operand} {f : Value → Value → Option Value} (h : binT P op t y z = some f) {a b v : Value} (hv : f a b = some v) : binA P op t y z a b = some v := by
  unfold binT at h
  split at h
  · simp at h; subst h; exact arM_ok (fun k n m => by simp [binA, intA, wrapT_eq]) hv
  · simp at h; subst h; exact arM_ok (fun k n m => by simp [binA, intA, wrapT_eq]) hv
  · exact binM_ok h hv
theorem builtinT_ok {b : Builtin} {ts : List TypeId} {xs : List Value} {h : HT} (hx : builtinT P b ts xs h = some x) : builtinA P b ts xs h.hp = some (x.at h.hp) := by
  unfold builtinT at hx
  split at hx
  · exact pT_ok hx fun _ _ => appendT_ok
  · exact pT_ok hx fun _ _ => copyT_ok
  · exact vT_ok hx fun _ h => by rw [← lenT_ok]; exact h
  · exact uT_ok hx fun _ => clearT_ok
  · exact vT_ok hx fun _ h => h
  · exact uT_ok hx fun _ => deleteT_ok
  · exact vT_ok hx fun _ h => h
  · exact vT_ok hx fun _ h => h
  · cases hx
theorem opT_ok {R : Type} {o : Op} {k : RunT → Option R} {r : R} (hk : opT P o k = some r) : ∃ f, k f = some r ∧ ∀ fr h x, f fr h = some x → opA P (evalA fr.get) o h.hp = some (x.at h.hp) := by
  unfold opT at hk
  split at hk
  all_goals (try simp only [opdK_eq, opdsK_eq] at hk)
  · exact ⟨_, hk, fun fr h x hx => by rw [opA_load]; exact vT_ok hx fun _ => ldT_ok⟩
  · split at hk
    · rename_i hb; exact ⟨_, hk, fun fr h x hx => by rw [opA_binOp]; exact vT_ok hx fun _ => binT_ok hb⟩
    · cases hk
  · split at hk
    · split at hk
      · rename_i hu _ _ hz; exact ⟨_, hk, fun fr h x hx => by rw [opA_indexAddr]; exact vT_ok hx fun _ => idxM_ok hu hz⟩
      · cases hk
    · exact ⟨_, hk, fun fr h x hx => by rw [opA_indexAddr]; exact vT_ok hx fun _ h => h⟩
  · split at hk
    · rename_i hu; exact ⟨_, hk, fun fr h x hx => by rw [opA_index]; exact vT_ok hx fun _ => idxS_ok hu⟩
    · exact ⟨_, hk, fun fr h x hx => by rw [opA_index]; exact vT_ok hx fun _ h => h⟩
  · exact ⟨_, hk, fun fr h x hx => by rw [opA_pick]; exact vT_ok hx fun _ h => h⟩
  · exact ⟨_, hk, fun fr h x hx => by rw [opA_store]; exact uT_ok hx fun _ => stT_ok⟩
  · exact ⟨_, hk, fun fr h x hx => by rw [opA_nilCheck]; exact vT_ok hx fun _ h => h⟩
  · exact ⟨_, hk, fun fr h x hx => by rw [opA_unOp]; exact vT_ok hx fun _ h => h⟩
  · exact ⟨_, hk, fun fr h x hx => by rw [opA_convert]; exact pT_ok hx fun _ _ => convT_ok⟩
  · exact ⟨_, hk, fun fr h x hx => by rw [opA_slice]; exact vT_ok hx fun _ h => by rw [← sliceT_ok]; exact h⟩
  · exact ⟨_, hk, fun fr h x hx => by rw [opA_fieldAddr]; exact vT_ok hx fun _ h => h⟩
  · exact ⟨_, hk, fun fr h x hx => by rw [opA_field]; exact vT_ok hx fun _ h => h⟩
  · exact ⟨_, hk, fun fr h x hx => by rw [opA_extract]; exact vT_ok hx fun _ h => h⟩
  · exact ⟨_, hk, fun fr h x hx => by rw [opA_lookup]; exact vT_ok hx fun _ h => by rw [← lookupT_ok]; exact h⟩
  · exact ⟨_, hk, fun fr h x hx => by rw [opA_mapUpdate]; exact uT_ok hx fun _ => mapUpdateT_ok⟩
  · exact ⟨_, hk, fun fr h x hx => by rw [opA_insert]; exact uT_ok hx fun _ => mapUpdateT_ok⟩
  · exact ⟨_, hk, fun fr h x hx => by rw [opA_range]; exact pT_ok hx fun _ _ => rangeT_ok⟩
  · exact ⟨_, hk, fun fr h x hx => by rw [opA_next]; exact pT_ok hx fun _ _ => nextT_ok⟩
  · exact ⟨_, hk, fun fr h x hx => by rw [opA_builtin]; exact builtinT_ok hx⟩
  · refine ⟨_, hk, fun fr h x hx => ?_⟩
    unfold valT at hx
    rw [opA_call]
    split at hx
    · rename_i hf; simp at hx; subst hx; simp [hf, ResT.at]
    · rename_i hf; simp at hx; subst hx; simp [hf, ResT.at]
    · cases hx
  · split at hk
    · rename_i hc; exact ⟨_, hk, fun fr h x hx => pureT_ok hc hx⟩
    · exact ⟨_, hk, fun fr h x hx => newT_ok hx⟩
    · cases hk
end
end Go.Ab

/- The evaluator over tree heaps: what it computes, the call comes to; no condition. -/
namespace Go.Ab
open Go.RowKit
theorem FT.new_get (i : Nat) : FT.new.get i = any := by
  rw [FT.get_eq]
  split
  · have : ∀ {α : Type} (x : α) (j : Nat), (W.all x).at j = x := by intro α x j; obtain _ | _ | _ | _ | _ | _ | _ | j := j <;> rfl
    simp [FT.new, this]
  · rfl
theorem FT.putK_eq {S : Type} (f : FT) (i : Nat) (v : Value) (k : FT → S) : f.putK i v k = k (f.set i v) := by
  unfold FT.putK; rw [putWK_eq]
theorem FT.set_put (f : FT) {n i : Nat} (v : Value) (hi : i < n) (hn : n ≤ 512) : (f.set i v).get = putF n f.get (some i) v := by
  funext j
  rw [FT.get_set _ _ (by omega), putF_some, if_pos hi]
theorem pW_inv {R : Type} {n : Nat} {fr : FT} {d : Option Tmp} {v : Value} {k : FT → Option R} {r : R} (hn : n ≤ 512) (h : pW n fr d v k = some r) : ∃ fr', k fr' = some r ∧ fr'.get = putF n fr.get d v := by
  cases d with
  | none => exact ⟨fr, h, rfl⟩
  | some d =>
    have h' : (bif Nat.ble (Nat.succ d) n then fr.putK d v k else none) = some r := h
    cases hd : Nat.ble (Nat.succ d) n with
    | false => rw [hd] at h'; cases h'
    | true =>
      rw [hd] at h'
      simp only [cond_true, FT.putK_eq] at h'
      exact ⟨_, h', FT.set_put fr v (Nat.le_of_ble_eq_true hd) hn⟩
def EndsT (e : Exit) (fr : FT) (h : HT) : QA := fun e' g h' => e' = e ∧ g = fr.get ∧ h' = h.hp
structure RecOkT (P : Program) (rec : RecsT) : Prop where
  call : ∀ f args h r h', rec.call f args h = some (r, h') → EvA P f args (Is r h'.hp) h.hp
  code : ∀ n c fr h e fr' h', n ≤ 512 → rec.code n c fr h = some (e, fr', h') → WpA P n c (EndsT e fr' h') fr.get h.hp
section
variable {P : Program} {n : Nat} {ops : Array Oper}
theorem loadU_inv {R : Type} (hn : n ≤ 512) {g : Nat → Value} {k : FT → Option R} {r : R} : ∀ (i : Nat) (t : FT), loadU n g k i t = some r → ∃ t', k t' = some r ∧ ∀ j, t'.get j = if j < i then g j else t.get j := by
  intro i
  induction i with
  | zero => intro t h; exact ⟨t, h, fun j => by simp⟩
  | succ i ih =>
    intro t h
    have h' : pW n t (some i) (g i) (loadU n g k i) = some r := h
    have hin : i < n := by
      rcases Nat.lt_or_ge i n with h1 | h1
      · exact h1
      · have h2 : (bif Nat.ble (Nat.succ i) n then t.putK i (g i) (loadU n g k i) else none) = some r := h'
        have : Nat.ble (Nat.succ i) n = false := by
          cases hb : Nat.ble (Nat.succ i) n with
          | false => rfl
          | true => have := Nat.le_of_ble_eq_true hb; omega
        rw [this] at h2; cases h2
    obtain ⟨t1, e1, e2⟩ := pW_inv hn h'
    obtain ⟨t2, e3, e4⟩ := ih t1 e1
    refine ⟨t2, e3, fun j => ?_⟩
    rw [e4, e2, putF_some, if_pos hin]
    by_cases h1 : j < i
    · rw [if_pos h1, if_pos (by omega)]
    · rw [if_neg h1]
      by_cases h2 : j = i
      · subst h2; rw [if_pos rfl, if_pos (by omega)]
      · rw [if_neg h2, if_neg (by omega)]
theorem psU_inv {R : Type} (hn : n ≤ 512) {k : FT → Option R} {r : R} : ∀ (ps : List (Tmp × Value)) (t : FT), psU n k ps t = some r → ∃ t', k t' = some r ∧ t'.get = ps.foldl (fun fr p => putF n fr (some p.1) p.2) t.get := by
  intro ps
  induction ps with
  | nil => intro t h; exact ⟨t, h, rfl⟩
  | cons p ps ih =>
    intro t h
    obtain ⟨t1, e1, e2⟩ := pW_inv hn (show pW n t (some p.1) p.2 (psU n k ps) = some r from h)
    obtain ⟨t2, e3, e4⟩ := ih t1 e1
    exact ⟨t2, e3, by rw [e4, e2]; rfl⟩
theorem roundT_ok {rec : RecsT} (hrec : RecOkT P rec) {b : Nat} {args : List Value} {h : HT} {r : Value} {h' : HT} (he : roundT rec b args h = some (r, h')) : RoundA P b args (Is r h'.hp) h.hp := by
  unfold roundT at he
  split at he
  case h_2 => cases he
  rename_i L hB
  split at he
  case h_2 => cases he
  rename_i hr1 hr2
  cases hc : (Nat.beq args.length L.ps.size && Nat.ble L.n 512) with
  | false => rw [hc] at he; cases he
  | true =>
    rw [hc] at he
    simp only [cond_true] at he
    simp only [Bool.and_eq_true, Nat.beq_eq] at hc
    have hn : L.n ≤ 512 := Nat.le_of_ble_eq_true hc.2
    obtain ⟨t1, e1, e2⟩ := loadU_inv hn _ _ he
    obtain ⟨t2, e3, e4⟩ := psU_inv hn _ _ e1
    have hw : ∀ i, t2.get i = putPs L args i ∨ t2.get i = any := by
      rw [e4]
      refine foldl_weak L.n _ _ _ fun i => ?_
      rw [e2]
      by_cases hi : i < L.n
      · exact .inl (by rw [if_pos hi])
      · exact .inr (by rw [if_neg hi]; exact FT.new_get i)
    refine ⟨L, by rw [HT.hp_get]; exact hB, hc.1, hr1, hr2, WpA.weaken ?_ hw⟩
    split at e3
    case h_2 => cases e3
    rename_i t3 h1 hc1
    refine (hrec.code _ _ _ _ _ _ _ hn hc1).mono ?_
    rintro e g h'' ⟨rfl, rfl, rfl⟩
    split at e3
    case h_2 => cases e3
    rename_i L1 hB1
    split at e3
    case h_2 => cases e3
    rename_i hst
    obtain ⟨h1', q1, q2⟩ := HT.put_inv e3
    clear e3
    split at q1
    case h_2 => cases q1
    rename_i e _ h2 hc2
    have hw2 := hrec.code _ _ _ _ _ _ _ hn hc2
    rw [q2] at hw2
    refine ⟨rfl, L1, by rw [HT.hp_get]; exact hB1, hst, hw2.mono ?_⟩
    rintro e' g h3 ⟨rfl, rfl, rfl⟩
    split at q1
    case h_2 => cases q1
    rename_i L2 hB2
    refine ⟨L2, by rw [HT.hp_get]; exact hB2, ?_⟩
    split at q1
    · obtain ⟨h4, r1, r2⟩ := HT.put_inv q1; simp at r1; obtain ⟨rfl, rfl⟩ := r1; exact ⟨rfl, r2.symm⟩
    · obtain ⟨h4, r1, r2⟩ := HT.put_inv q1; simp at r1; obtain ⟨rfl, rfl⟩ := r1; exact ⟨rfl, r2.symm⟩
    · obtain ⟨h4, r1, r2⟩ := HT.put_inv q1; simp at r1; obtain ⟨rfl, rfl⟩ := r1; exact ⟨rfl, r2.symm⟩
    · cases q1
theorem tVF_eq (v : Value) (k : Value → Option (FT × HT)) : tVF v k = k v := by
  cases v with
  | bool b => cases b <;> rfl
  | int kd m =>
    cases m with
    | ofNat m => show sNat m (fun m => k (.int kd (.ofNat m))) = _; rw [sNat_eq]
    | negSucc m => show sNat m (fun m => k (.int kd (.negSucc m))) = _; rw [sNat_eq]
  | string s => show tVal (.string s) k = _; exact tVal_eq _ _
  | pointer a =>
    cases a with
    | none => rfl
    | some ad =>
      obtain ⟨b, o, s⟩ := ad
      show sNat b (fun b => sNat o fun o => k (.pointer (some ⟨b, o, s⟩))) = _
      rw [sNat_eq, sNat_eq]
  | slice a m c => show tVal (.slice a m c) k = _; exact tVal_eq _ _
  | map r => show tVal (.map r) k = _; exact tVal_eq _ _
  | agg c => show tVal (.agg c) k = _; exact tVal_eq _ _
  | tuple c => show tVal (.tuple c) k = _; exact tVal_eq _ _
  | _ => rfl
/-- where an answer is put -/
def PutOk (n : Nat) (d : Option Tmp) (p : PutT) : Prop := ∀ (fr : FT) (v : Value) (k : FT → Option (FT × HT)) (r : FT × HT), p fr v k = some r → ∃ fr', k fr' = some r ∧ fr'.get = putF n fr.get d v
theorem putD_ok {R : Type} {d : Option Tmp} {k : PutT → Option R} {r : R} (hn : n ≤ 512) (h : putD n d k = some r) : ∃ p, k p = some r ∧ PutOk n d p := by
  cases d with
  | none => exact ⟨_, h, fun fr v k r h => ⟨fr, h, rfl⟩⟩
  | some d =>
    have h' : (bif Nat.ble (Nat.succ d) n then putWK d k else none) = some r := h
    cases hd : Nat.ble (Nat.succ d) n with
    | false => rw [hd] at h'; cases h'
    | true =>
      rw [hd] at h'
      simp only [cond_true, putWK_eq] at h'
      exact ⟨_, h', fun fr v k r h => ⟨_, h, FT.set_put fr v (Nat.le_of_ble_eq_true hd) hn⟩⟩
theorem stepT_ok {rec : RecsT} (hrec : RecOkT P rec) {o : Oper} {run : RunT} (hrun : ∀ fr h x, run fr h = some x → opA P (evalA fr.get) o.op h.hp = some (x.at h.hp)) {p : PutT} (hp : PutOk n o.dst p) {ih : FT → HT → Option (FT × HT)} {K : Fr → Hp → Prop} {fr' : FT} {h' : HT}
    (hih : ∀ t h1, ih t h1 = some (fr', h') → K t.get h1.hp) {fr : FT} {h : HT} (hs : stepT rec p run ih fr h = some (fr', h')) :
    match opA P (evalA fr.get) o.op h.hp with
      | none => False
      | some (.val v h1) => K (putF n fr.get o.dst v) h1
      | some (.enter g args) => EvA P g args (fun r h1 => K (putF n fr.get o.dst r) h1) h.hp
      | some (.round b args) => RoundA P b args (fun r h1 => K (putF n fr.get o.dst r) h1) h.hp := by
  unfold stepT at hs
  split at hs
  · rename_i v e hop
    rw [hrun _ _ _ hop]
    rw [tVF_eq] at hs
    obtain ⟨h1, q1, q2⟩ := onT_inv hs
    obtain ⟨t, e1, e2⟩ := hp _ _ _ _ q1
    simp only [ResT.at]
    rw [← e2, ← q2]
    exact hih _ _ e1
  · rename_i g args hop
    rw [hrun _ _ _ hop]
    split at hs
    · rename_i r h1 hc
      obtain ⟨t, e1, e2⟩ := hp _ _ _ _ hs
      refine (hrec.call _ _ _ _ _ hc).mono ?_
      rintro r' h'' ⟨rfl, rfl⟩
      rw [← e2]
      exact hih _ _ e1
    · cases hs
  · rename_i b args hop
    rw [hrun _ _ _ hop]
    split at hs
    · rename_i r h1 hc
      obtain ⟨t, e1, e2⟩ := hp _ _ _ _ hs
      refine (roundT_ok hrec hc).mono ?_
      rintro r' h'' ⟨rfl, rfl⟩
      rw [← e2]
      exact hih _ _ e1
    · cases hs
  · cases hs
/-- what a decoded operation is -/
def MOk (P : Program) (n : Nat) (ops : Array Oper) (o : Oper) : MOpT → Prop
  | .mov p x => PutOk n o.dst p ∧ (∀ fr : FT, wantA ops o fr.get = some true) ∧ ∀ (fr : FT) h, opA P (evalA fr.get) o.op h = some (.val (x fr) h)
  | .movG g want p x => PutOk n o.dst p ∧ (∀ fr : FT, wantA ops o fr.get = wantV (g fr) want) ∧ ∀ (fr : FT) h, opA P (evalA fr.get) o.op h = some (.val (x fr) h)
  | .op p run => PutOk n o.dst p ∧ (∀ fr : FT, wantA ops o fr.get = some true) ∧ ∀ fr h x, run fr h = some x → opA P (evalA fr.get) o.op h.hp = some (x.at h.hp)
  | .opG g want p run => PutOk n o.dst p ∧ (∀ fr : FT, wantA ops o fr.get = wantV (g fr) want) ∧ ∀ fr h x, run fr h = some x → opA P (evalA fr.get) o.op h.hp = some (x.at h.hp)
theorem actD_ok (hn : n ≤ 512) {o : Oper} {mv : PutT → (FT → Value) → MOpT} {op : PutT → RunT → MOpT} {m : MOpT} (h : actD P n o mv op = some m) :
    (∃ p x, m = mv p x ∧ PutOk n o.dst p ∧ ∀ (fr : FT) h, opA P (evalA fr.get) o.op h = some (.val (x fr) h)) ∨
    (∃ p run, m = op p run ∧ PutOk n o.dst p ∧ ∀ fr h x, run fr h = some x → opA P (evalA fr.get) o.op h.hp = some (x.at h.hp)) := by
  unfold actD at h
  obtain ⟨p, h1, h2⟩ := putD_ok hn h
  split at h1
  · rename_i x hx
    rw [opdK_eq] at h1
    simp at h1
    exact .inl ⟨p, _, h1.symm, h2, fun fr h => by rw [hx]; exact opA_move x⟩
  · rename_i x hx
    rw [opdK_eq] at h1
    simp at h1
    exact .inl ⟨p, _, h1.symm, h2, fun fr h => by rw [hx]; exact opA_assign x⟩
  · obtain ⟨f, h3, h4⟩ := opT_ok h1
    simp at h3
    exact .inr ⟨p, f, h3.symm, h2, h4⟩
theorem compT_ok (hn : n ≤ 512) {o : Oper} {m : MOpT} (h : compT P n ops o = some m) : MOk P n ops o m := by
  unfold compT at h
  split at h
  · rename_i hg
    have hw : ∀ fr : FT, wantA ops o fr.get = some true := fun fr => by unfold wantA; rw [hg]
    rcases actD_ok hn h with ⟨p, x, rfl, h1, h2⟩ | ⟨p, run, rfl, h1, h2⟩
    · exact ⟨h1, hw, h2⟩
    · exact ⟨h1, hw, h2⟩
  · rename_i j want hg
    split at h
    · cases h
    · rename_i d hd
      rw [getK_eq, sBool_eq] at h
      have hw : ∀ fr : FT, wantA ops o fr.get = wantV (fr.get d) want := fun fr => by
        unfold wantA; rw [hg]; simp only [hd]; rfl
      rcases actD_ok hn h with ⟨p, x, rfl, h1, h2⟩ | ⟨p, run, rfl, h1, h2⟩
      · exact ⟨h1, hw, h2⟩
      · exact ⟨h1, hw, h2⟩
theorem wantT_ok {R : Type} {g : Value} {want : Bool} {yes no : Unit → Option R} {r : R} (h : wantT g want yes no = some r) : (wantV g want = some true ∧ yes () = some r) ∨ (wantV g want = some false ∧ no () = some r) := by
  unfold wantT at h
  split at h
  · rename_i b
    cases b <;> cases want
    · exact .inl ⟨rfl, h⟩
    · exact .inr ⟨rfl, h⟩
    · exact .inr ⟨rfl, h⟩
    · exact .inl ⟨rfl, h⟩
  · exact .inr ⟨rfl, h⟩
  · cases h
theorem opsT_ok {rec : RecsT} (hrec : RecOkT P rec) (hn : n ≤ 512) : ∀ (l : List Oper) (fr : FT) (h : HT) (fr' : FT) (h' : HT), opsT P rec n ops l fr h = some (fr', h') → runOps P n ops (fun g h'' => g = fr'.get ∧ h'' = h'.hp) l fr.get h.hp := by
  intro l
  induction l with
  | nil => intro fr h fr' h' he; have : some (fr, h) = some (fr', h') := he; simp at this; simp [runOps, this]
  | cons o l ih =>
    intro fr h fr' h' he
    have he' : Option.rec (motive := fun _ => Option (FT × HT)) none (fun m => doT rec m (opsT P rec n ops l) fr h) (compT P n ops o) = some (fr', h') := he
    clear he
    simp only [runOps]
    have skip : ∀ (p : PutT), PutOk n o.dst p → p fr sk (fun fr => opsT P rec n ops l fr h) = some (fr', h') →
        runOps P n ops (fun g h'' => g = fr'.get ∧ h'' = h'.hp) l (putF n fr.get o.dst sk) h.hp := by
      intro p hpo hp
      obtain ⟨t, e1, e2⟩ := hpo _ _ _ _ hp
      rw [← e2]
      exact ih _ _ _ _ e1
    have go : ∀ (p : PutT) (x : FT → Value), PutOk n o.dst p → p fr (x fr) (fun fr => opsT P rec n ops l fr h) = some (fr', h') →
        runOps P n ops (fun g h'' => g = fr'.get ∧ h'' = h'.hp) l (putF n fr.get o.dst (x fr)) h.hp := by
      intro p x hpo hp
      obtain ⟨t, e1, e2⟩ := hpo _ _ _ _ hp
      rw [← e2]
      exact ih _ _ _ _ e1
    cases hm : compT P n ops o with
    | none => rw [hm] at he'; cases he'
    | some m =>
      rw [hm] at he'
      have he2 : doT rec m (opsT P rec n ops l) fr h = some (fr', h') := he'
      clear he'
      have hmk := compT_ok hn hm
      cases m with
      | mov p x =>
        obtain ⟨h1, h2, h3⟩ := hmk
        rw [h2]
        refine ⟨fun _ => ?_, fun h => by simp at h⟩
        rw [h3]
        exact go p x h1 he2
      | movG g want p x =>
        obtain ⟨h1, h2, h3⟩ := hmk
        rw [h2]
        simp only [doT] at he2
        rcases wantT_ok he2 with ⟨w1, w2⟩ | ⟨w1, w2⟩
        · rw [w1]
          refine ⟨fun _ => ?_, fun h => by simp at h⟩
          rw [h3]
          exact go p x h1 w2
        · rw [w1]
          exact ⟨fun h => by simp at h, fun _ => skip p h1 w2⟩
      | op p run =>
        obtain ⟨h1, h2, h3⟩ := hmk
        rw [h2]
        refine ⟨fun _ => ?_, fun h => by simp at h⟩
        exact stepT_ok (K := fun f h1 => runOps P n ops (fun g h'' => g = fr'.get ∧ h'' = h'.hp) l f h1) hrec h3 h1 (fun t h1 => ih t h1 fr' h') he2
      | opG g want p run =>
        obtain ⟨h1, h2, h3⟩ := hmk
        rw [h2]
        simp only [doT] at he2
        rcases wantT_ok he2 with ⟨w1, w2⟩ | ⟨w1, w2⟩
        · rw [w1]
          refine ⟨fun _ => ?_, fun h => by simp at h⟩
          exact stepT_ok (K := fun f h1 => runOps P n ops (fun g h'' => g = fr'.get ∧ h'' = h'.hp) l f h1) hrec h3 h1 (fun t h1 => ih t h1 fr' h') w2
        · rw [w1]
          exact ⟨fun h => by simp at h, fun _ => skip p h1 w2⟩
end
end Go.Ab

/- The evaluator over tree heaps, second part: statements whose order is drawn, code, calls; no condition. -/
namespace Go.Ab
open Go.RowKit
section
variable {P : Program} {n : Nat} {ops : Array Oper}
theorem drT_ok {rec : RecsT} (hrec : RecOkT P rec) (hn : n ≤ 512) : ∀ (l : List Nat) (fr : FT) (h : HT) (C : List Nat → HT → Bool) (C' : List Nat → Hp → Prop) (fr' : FT) (h' : HT), (∀ A g, C A g = true → C' A g.hp) → drT P rec n ops l fr h C = some (fr', h') →
    drC P n ops (ancT ops) (fun g h'' => g = fr'.get ∧ h'' = h'.hp) l fr.get h.hp C' := by
  intro l
  induction l with
  | nil => intro fr h C C' fr' h' hC he; have : some (fr, h) = some (fr', h') := he; simp at this; simp [drC, this]
  | cons i l ih =>
    intro fr h C C' fr' h' hC he
    simp only [drT] at he
    simp only [drC]
    split at he
    · cases he
    rename_i o ho
    rw [ho]
    simp only
    have hil : i < ops.size := (Array.getElem?_eq_some_iff.1 ho).1
    have look : ∀ f, (∀ fr h x, f fr h = some x → opA P (evalA fr.get) o.op h.hp = some (x.at h.hp)) → cls o.op ≠ 2 → newA P (evalA fr.get) o.op = none → lookT2 f n i o (drT P rec n ops l) fr h C = some (fr', h') →
        seen (opA P (evalA fr.get) o.op h.hp) (fun v h'' => h'' = h.hp ∧ drC P n ops (ancT ops) (fun g h'' => g = fr'.get ∧ h'' = h'.hp) l (putF n fr.get o.dst v) h.hp (fun A g => C' A g ∧ (A.contains i = true ∨ opA P (evalA fr.get) o.op g = some (.val v g)))) .mk := by
      intro f hf h1 h2 hl
      unfold lookT2 at hl
      split at hl
      · rename_i v e hop
        have hop' := hf _ _ _ hop
        have hg := look_same h1 h2 hop'
        rw [tVal_eq] at hl
        obtain ⟨t, e1, e2⟩ := pW_inv hn hl
        rw [hop']
        simp only [ResT.at, seen_val]
        refine ⟨hg, ?_⟩
        rw [← e2]
        refine ih _ _ _ _ _ _ (fun A g hg => ?_) e1
        simp only [Bool.and_eq_true, Bool.or_eq_true] at hg
        refine ⟨hC A g hg.1, hg.2.imp id fun hs => ?_⟩
        unfold seesT at hs
        split at hs
        · rename_i v' e' hop2
          have hop3 := hf _ _ _ hop2
          have := look_same h1 h2 hop3
          simp only [ResT.at] at hop3
          rw [hop3, vEq_ok 5 _ _ hs, this]
        · simp at hs
      · cases hl
    split at he
    · cases he
    · rename_i hw
      rw [hw]
      obtain ⟨t, e1, e2⟩ := pW_inv hn he
      simp only [wanted_false]
      rw [← e2]
      exact ih _ _ _ _ _ _ hC e1
    · rename_i hw
      rw [hw]
      simp only [wanted_true]
      have hcl := cls_le o.op
      split at he
      · cases he
      rename_i f hfo
      obtain ⟨f', hf1, hf⟩ := opT_ok hfo
      simp only [Option.some.injEq] at hf1
      subst hf1
      split at he
      · rename_i hc
        rw [hc]
        simp only
        split at he
        · rename_i v e hop
          have hop' := hf _ _ _ hop
          have hg := look_same (P := P) (by omega) (cls_new (by omega) _) hop'
          rw [tVal_eq] at he
          obtain ⟨t, e1, e2⟩ := pW_inv hn he
          rw [hop']
          simp only [ResT.at, seen_val]
          refine ⟨hg, ?_⟩
          rw [← e2]
          exact ih _ _ _ _ _ _ hC e1
        · cases he
      · rename_i hc
        rw [hc]
        exact look _ hf (by omega) (cls1_new hc _) he
      · rename_i hc
        rw [hc]
        simp only
        cases hef : isEff o.op with
        | false => rw [hef] at he; cases he
        | true =>
          rw [hef] at he
          simp only [cond_true] at he
          refine ⟨rfl, ?_⟩
          unfold actT at he
          rw [ancT_get hil]
          have fin : ∀ {v : Value} {h1 : HT}, (bif C (preds ops i) h1 then pW n fr o.dst v fun fr => drT P rec n ops l fr h1 C else none) = some (fr', h') →
              C' (preds ops i) h1.hp ∧ drC P n ops (ancT ops) (fun g h'' => g = fr'.get ∧ h'' = h'.hp) l (putF n fr.get o.dst v) h1.hp C' := by
            intro v h1 hb
            cases hCc : C (preds ops i) h1 with
            | false => rw [hCc] at hb; cases hb
            | true =>
              rw [hCc] at hb
              simp only [cond_true] at hb
              obtain ⟨t, e1, e2⟩ := pW_inv hn hb
              refine ⟨hC _ _ hCc, ?_⟩
              rw [← e2]
              exact ih _ _ _ _ _ _ hC e1
          split at he
          · rename_i v e hop
            rw [tVal_eq] at he
            obtain ⟨h1, q1, q2⟩ := onT_inv he
            rw [hf _ _ _ hop]
            simp only [ResT.at, after_val]
            rw [← q2]
            exact fin q1
          · rename_i g args hop
            split at he
            · rename_i r h1 hcl
              rw [hf _ _ _ hop]
              refine after_call (hrec.call _ _ _ _ _ hcl) ?_
              rintro r' h'' ⟨rfl, rfl⟩
              exact fin he
            · cases he
          · rename_i b args hop
            split at he
            · rename_i r h1 hcl
              rw [hf _ _ _ hop]
              refine after_round ((roundT_ok hrec hcl).mono ?_)
              rintro r' h'' ⟨rfl, rfl⟩
              exact fin he
            · cases he
          · cases he
      · rename_i hc0 hc1 hc2
        have hc3 : cls o.op = 3 := by
          have g0 : cls o.op ≠ 0 := fun h => hc0 h
          have g1 : cls o.op ≠ 1 := fun h => hc1 h
          have g2 : cls o.op ≠ 2 := fun h => hc2 h
          omega
        rw [hc3]
        simp only
        split at he
        · rename_i B g hnew
          rw [hnew]
          simp only
          obtain ⟨h1, q1, q2⟩ := HT.push_inv he
          cases hCc : C [] h1 with
          | false => rw [hCc] at q1; cases q1
          | true =>
            rw [hCc] at q1
            simp only [cond_true, tVal_eq] at q1
            obtain ⟨t, e1, e2⟩ := pW_inv hn q1
            rw [← q2, HT.hp_len]
            refine ⟨hC _ _ hCc, ?_⟩
            rw [← e2]
            refine ih _ _ _ _ _ _ (fun A g hg => ?_) e1
            simp only [Bool.and_eq_true, Bool.or_eq_true] at hg
            refine ⟨hC A g hg.1, hg.2.imp id fun hs => ?_⟩
            unfold keptT at hs
            split at hs
            · rename_i B' hB'; rw [HT.hp_get, hB', bEq_ok hs]
            · simp at hs
        · rename_i hnew
          rw [hnew]
          exact look _ hf hc2 hnew he
theorem iterT_ok {c : Code} {f : FT → HT → Option (Exit × FT × HT)} (hf : ∀ fr h e fr' h', f fr h = some (e, fr', h') → WpA P n c (EndsT e fr' h') fr.get h.hp) : ∀ (k : Nat) (fr : FT) (h : HT) (e : Exit) (fr' : FT) (h' : HT), iterT f k fr h = some (e, fr', h') → roundsA P n c (EndsT e fr' h') k fr.get h.hp := by
  intro k
  induction k with
  | zero => intro fr h e fr' h' he; cases he
  | succ k ih =>
    intro fr h e fr' h' he
    have he2 : (match f fr h with
      | some (.normal, fr, h) => iterT f k fr h
      | r => r) = some (e, fr', h') := he
    clear he
    simp only [roundsA]
    split at he2
    · rename_i fr1 h1 hf1
      refine (hf _ _ _ _ _ hf1).mono ?_
      rintro e1 g h2 ⟨rfl, rfl, rfl⟩
      exact ih _ _ _ _ _ he2
    · rename_i hne
      refine (hf _ _ _ _ _ he2).mono ?_
      rintro e1 g h2 ⟨rfl, rfl, rfl⟩
      cases e1 with
      | normal => exact (hne _ _ he2).elim
      | _ => exact ⟨rfl, rfl, rfl⟩
theorem codeT_ok (hm : P.follows .mixedOrders = true) {rec : RecsT} (hrec : RecOkT P rec) (hn : n ≤ 512) : ∀ (c : Code) (fr : FT) (h : HT) (e : Exit) (fr' : FT) (h' : HT), codeT P rec n c fr h = some (e, fr', h') → WpA P n c (EndsT e fr' h') fr.get h.hp := by
  intro c
  induction c with
  | skip => intro fr h e fr' h' he; simp [codeT] at he; obtain ⟨rfl, rfl, rfl⟩ := he; exact WpA.skip ⟨rfl, rfl, rfl⟩
  | region id ops draw =>
    intro fr h e fr' h' he
    replace he : regionT P rec n ops draw fr h = some (e, fr', h') := he
    cases draw with
    | false =>
      simp only [regionT] at he
      split at he
      · rename_i fr1 h1 ho
        simp at he
        obtain ⟨rfl, rfl, rfl⟩ := he
        refine (WpA.region (opsT_ok hrec hn _ _ _ _ _ ho)).mono ?_
        intro e g h2 hq
        cases e with
        | normal => exact ⟨rfl, hq.1, hq.2⟩
        | _ => exact hq.elim
      · cases he
    | true =>
      simp only [regionT] at he
      cases hp : planOk n ops (mkPlan ops ops.size []) with
      | false => rw [hp] at he; cases he
      | true =>
        rw [hp] at he
        simp only [cond_true] at he
        split at he
        · rename_i fr1 h1 ho
          simp at he
          obtain ⟨rfl, rfl, rfl⟩ := he
          refine WpA.drawnA (mkPlan ops ops.size []) (ancT ops) hm hp (ancT_ok ops) ?_
          have hd := drT_ok hrec hn _ _ _ (fun _ _ => true) (fun _ _ => True) _ _ (fun _ _ _ => trivial) ho
          have hk : normK (EndsT .normal fr1 h1) = fun g h'' => g = fr1.get ∧ h'' = h1.hp := by
            funext g h''; simp [normK, EndsT]
          rw [hk]; exact hd
        · cases he
  | seq x y ihx ihy =>
    intro fr h e fr' h' he
    replace he : seqT (codeT P rec n x) (codeT P rec n y) fr h = some (e, fr', h') := he
    simp only [seqT] at he
    refine WpA.seq ?_
    split at he
    · rename_i fr1 h1 h2
      refine (ihx _ _ _ _ _ h2).mono ?_
      rintro e1 g h3 ⟨rfl, rfl, rfl⟩
      exact ihy _ _ _ _ _ he
    · rename_i hne
      refine (ihx _ _ _ _ _ he).mono ?_
      rintro e1 g h3 ⟨rfl, rfl, rfl⟩
      cases e1 with
      | normal => exact (hne _ _ he).elim
      | _ => exact ⟨rfl, rfl, rfl⟩
  | cond c x y ihx ihy =>
    intro fr h e fr' h' he
    replace he : condT c (codeT P rec n x) (codeT P rec n y) fr h = some (e, fr', h') := he
    simp only [condT] at he
    split at he
    · rename_i hc; exact WpA.cond hc (ihx _ _ _ _ _ he)
    · rename_i hc; exact WpA.cond hc (ihy _ _ _ _ _ he)
    · cases he
  | block id c ih =>
    intro fr h e fr' h' he
    replace he : blockT id (codeT P rec n c) fr h = some (e, fr', h') := he
    simp only [blockT] at he
    refine WpA.block ?_
    split at he
    · rename_i id' fr1 h1 h2
      refine (ih _ _ _ _ _ h2).mono ?_
      rintro e1 g h3 ⟨rfl, rfl, rfl⟩
      simp only [blockQ]
      cases hb : Nat.beq id' id with
      | true =>
        rw [hb] at he
        simp at he
        obtain ⟨rfl, rfl, rfl⟩ := he
        rw [if_pos (Nat.eq_of_beq_eq_true hb)]
        exact ⟨rfl, rfl, rfl⟩
      | false =>
        rw [hb] at he
        simp at he
        obtain ⟨rfl, rfl, rfl⟩ := he
        rw [if_neg (Nat.ne_of_beq_eq_false hb)]
        exact ⟨rfl, rfl, rfl⟩
    · rename_i hne
      refine (ih _ _ _ _ _ he).mono ?_
      rintro e1 g h3 ⟨rfl, rfl, rfl⟩
      cases e1 with
      | exit id' => exact (hne _ _ _ he).elim
      | _ => exact ⟨rfl, rfl, rfl⟩
  | loop c ih =>
    intro fr h e fr' h' he
    replace he : iterT (codeT P rec n c) 100000 fr h = some (e, fr', h') := he
    exact WpA.rounds _ (iterT_ok ih _ _ _ _ _ _ he)
  | rangeFunc g ps x y _ _ =>
    intro fr h e fr' h' he
    replace he : rangeFT rec n g ps x y fr h = some (e, fr', h') := he
    simp only [rangeFT] at he
    split at he
    case h_2 => cases he
    rename_i gf first cap hg
    obtain ⟨h1, q1, q2⟩ := HT.push_inv he
    clear he
    split at q1
    case h_2 => cases q1
    rename_i r1 h2 hc
    refine WpA.rangeFunc hg ?_
    intro L l1 l2 l3 l4 l5 l6 l7
    have hL : L = { st := .ready, pend := none, n := n, fr := fr.get, ps := ps, assign := x, body := y } := by
      cases L; simp_all
    rw [hL, ← q2, HT.hp_len]
    refine (hrec.call _ _ _ _ _ hc).mono ?_
    rintro r' h'' ⟨rfl, rfl⟩
    split at q1
    case h_2 => cases q1
    rename_i L1 hB
    refine ⟨L1, by rw [HT.hp_get]; exact hB, ?_⟩
    split at q1
    · cases q1
    · rename_i hp hst
      obtain ⟨h4, r1, r2⟩ := HT.put_inv q1
      simp at r1
      obtain ⟨rfl, rfl, rfl⟩ := r1
      exact ⟨fun h => hst h, by rw [hp]; exact ⟨rfl, rfl, r2.symm⟩⟩
    · rename_i hp hst
      obtain ⟨h4, r1, r2⟩ := HT.put_inv q1
      simp at r1
      obtain ⟨rfl, rfl, rfl⟩ := r1
      exact ⟨fun h => hst h, by rw [hp]; exact ⟨rfl, rfl, r2.symm⟩⟩
    · rename_i hp hst
      obtain ⟨h4, r1, r2⟩ := HT.put_inv q1
      simp at r1
      obtain ⟨rfl, rfl, rfl⟩ := r1
      exact ⟨fun h => hst h, by rw [hp]; exact ⟨rfl, rfl, r2.symm⟩⟩
    · cases q1
  | exit id => intro fr h e fr' h' he; simp [codeT] at he; obtain ⟨rfl, rfl, rfl⟩ := he; exact WpA.exit ⟨rfl, rfl, rfl⟩
  | scope c _ => intro fr h e fr' h' he; cases he
  | label l => intro fr h e fr' h' he; simp [codeT] at he; obtain ⟨rfl, rfl, rfl⟩ := he; exact WpA.label ⟨rfl, rfl, rfl⟩
  | goto l => intro fr h e fr' h' he; cases he
  | ret => intro fr h e fr' h' he; simp [codeT] at he; obtain ⟨rfl, rfl, rfl⟩ := he; exact WpA.ret ⟨rfl, rfl, rfl⟩
  | refuse why => intro fr h e fr' h' he; cases he
theorem argsT_inv {R : Type} {k : FT → Option R} {r : R} (hn : n ≤ 512) : ∀ (vs : List Value) (i : Nat) (t : FT), argsT n k vs i t = some r → i ≤ n → i + vs.length ≤ n ∧ ∃ t', k t' = some r ∧ ∀ j, t'.get j = if i ≤ j ∧ j < i + vs.length then vs.getD (j - i) any else t.get j := by
  intro vs
  induction vs with
  | nil => intro i t h hi; exact ⟨by simpa using hi, t, h, fun j => by rw [if_neg (by simp only [List.length_nil]; omega)]⟩
  | cons v vs ih =>
    intro i t h hi
    replace h : tVal v (fun v => pW n t (some i) v fun t => argsT n k vs (Nat.succ i) t) = some r := h
    rw [tVal_eq] at h
    have hlt : i < n := by
      rcases Nat.lt_or_ge i n with h' | h'
      · exact h'
      · have h2 : (bif Nat.ble (Nat.succ i) n then t.putK i v (fun t => argsT n k vs (Nat.succ i) t) else none) = some r := h
        have : Nat.ble (Nat.succ i) n = false := by
          cases hb : Nat.ble (Nat.succ i) n with
          | false => rfl
          | true => have := Nat.le_of_ble_eq_true hb; omega
        rw [this] at h2; cases h2
    obtain ⟨t1, e1, e2⟩ := pW_inv hn h
    obtain ⟨h3, t2, e3, e4⟩ := ih (i + 1) t1 e1 hlt
    refine ⟨by simp; omega, t2, e3, fun j => ?_⟩
    rw [e4, e2, putF_some, if_pos hlt]
    simp only [List.length_cons]
    by_cases h1 : i + 1 ≤ j ∧ j < i + 1 + vs.length
    · rw [if_pos h1, if_pos (by omega), show j - i = (j - (i + 1)) + 1 by omega]
      simp [List.getD_eq_getElem?_getD]
    · rw [if_neg h1]
      by_cases h2 : j = i
      · subst h2; rw [if_pos rfl, if_pos (by omega)]; simp
      · rw [if_neg h2, if_neg (by omega)]
theorem resultsT_ok {fr : Fr} {h : HT} : ∀ (rs : List ResultVar) (vs : List Value), resultsT P fr h rs = some vs → resultsA P fr h.hp rs = some vs := by
  intro rs
  induction rs with
  | nil => intro vs h; exact h
  | cons r rs ih =>
    intro vs hv
    simp only [resultsT] at hv
    split at hv
    · rename_i v vs' h1 h2
      simp at hv; subst hv
      have := ih _ h2
      cases r with
      | tmp t => simp [resT] at h1; subst h1; simp [resultsA, resA, this]
      | cell a t => simp only [resT, loadT_ok] at h1; simp [resultsA, resA, this, h1]
    · cases hv
theorem funT_ok (hm : P.follows .mixedOrders = true) {rec : RecsT} (hrec : RecOkT P rec) {f : FuncId} {args : List Value} {h : HT} {r : Value} {h' : HT} (he : funT P rec f args h = some (r, h')) : EvA P f args (Is r h'.hp) h.hp := by
  cases hf : P.funcs[f]? with
  | none => simp only [funT, hf] at he; cases he
  | some fn =>
  cases hb : fn.body with
  | none => simp only [funT, hf, hb] at he; cases he
  | some c =>
  simp only [funT, hf, hb] at he
  cases hc : (callable P f && Nat.ble fn.ntmps 512) with
  | false => rw [hc] at he; cases he
  | true =>
    rw [hc] at he
    simp only [cond_true] at he
    simp only [Bool.and_eq_true] at hc
    have hn : fn.ntmps ≤ 512 := Nat.le_of_ble_eq_true hc.2
    have hname : (fn.name != "runtime.NumGoroutine") = true := by
      have := hc.1
      simp only [callable, hf, Bool.and_eq_true] at this
      exact this.1
    obtain ⟨h1, t, e1, e2⟩ := argsT_inv hn args 0 .new he (Nat.zero_le _)
    have ht : t.get = fun i => args.getD i any := by
      funext j
      rw [e2]
      by_cases hj : j < args.length
      · rw [if_pos (by omega)]; simp
      · rw [if_neg (by omega)]
        simp [List.getD_eq_getElem?_getD, List.getElem?_eq_none (Nat.le_of_not_lt hj), FT.new_get]
    refine EvA.body hf hb hname (by omega) ?_
    rw [← ht]
    split at e1
    · rename_i fr1 h2 hcode
      refine (codeT_ok hm hrec hn _ _ _ _ _ _ hcode).mono ?_
      rintro e g h3 ⟨rfl, rfl, rfl⟩
      split at e1
      · rename_i vs hvs
        rw [tVal_eq] at e1
        simp at e1
        obtain ⟨rfl, rfl⟩ := e1
        simp only [bodyQ, resultsT_ok _ _ hvs]
        exact ⟨rfl, rfl⟩
      · cases e1
    · rename_i fr1 h2 hcode
      refine (codeT_ok hm hrec hn _ _ _ _ _ _ hcode).mono ?_
      rintro e g h3 ⟨rfl, rfl, rfl⟩
      split at e1
      · rename_i vs hvs
        rw [tVal_eq] at e1
        simp at e1
        obtain ⟨rfl, rfl⟩ := e1
        simp only [bodyQ, resultsT_ok _ _ hvs]
        exact ⟨rfl, rfl⟩
      · cases e1
    · cases e1
theorem HT.nil_hp : (HT.mk 0 .nil).hp = [] := rfl
theorem recT_ok (hm : P.follows .mixedOrders = true) {t : Known} (ht : ∀ e ∈ t, Tells P e.1 e.2.1 e.2.2) (base : FuncId → Bool) : ∀ k, RecOkT P (recT P t base k) := by
  intro k
  induction k with
  | zero => exact ⟨fun f args h r h' he => (by cases he), fun n c fr h e fr' h' _ he => (by cases he)⟩
  | succ k ih =>
    refine ⟨fun f args h r h' he => ?_, fun n c fr h e fr' h' hn he => codeT_ok hm ih hn _ _ _ _ _ _ he⟩
    have he' : (bif base f then match lookT t f args with
      | some r => some (r, h)
      | none => match funT P (recT P t base k) f args ⟨0, .nil⟩ with
        | some (r, _) => bif flat r && args.all flat then some (r, h) else none
        | none => none
    else funT P (recT P t base k) f args h) = some (r, h') := he
    cases hb : base f with
    | false => rw [hb] at he'; exact funT_ok hm ih he'
    | true =>
      rw [hb] at he'
      simp only [cond_true] at he'
      split at he'
      · rename_i r1 hl
        simp at he'
        obtain ⟨rfl, rfl⟩ := he'
        exact lookT_ok t ht f args r1 hl h.hp
      · split at he'
        · rename_i r1 h1 hrun
          cases hfl : (flat r1 && args.all flat) with
          | false => rw [hfl] at he'; cases he'
          | true =>
            rw [hfl] at he'
            simp at he'
            obtain ⟨rfl, rfl⟩ := he'
            simp only [Bool.and_eq_true] at hfl
            have := funT_ok hm ih hrun
            rw [HT.nil_hp] at this
            refine (EvA.base (Q := fun r => r = r1) (h0 := []) (h := h.hp) hfl.2 (this.mono ?_)).mono ?_
            · rintro r2 h2 ⟨rfl, rfl⟩; exact ⟨hfl.1, rfl⟩
            · rintro r2 h2 ⟨rfl, rfl⟩; exact ⟨rfl, rfl⟩
        · cases he'
/-- **A closed call, run by the kernel, over tree heaps.** -/
theorem EvA.tree (hm : P.follows .mixedOrders = true) (t : Known) (ht : ∀ e ∈ t, Tells P e.1 e.2.1 e.2.2) (base : FuncId → Bool) (k : Nat) {f : FuncId} {args : List Value} {r : Value} (ha : args.all flat = true) (hr : flat r = true)
    (he : ((recT P t base k).call f args ⟨0, .nil⟩).map (·.1) = some r) : Tells P f args r := by
  intro h
  obtain ⟨⟨r1, h1⟩, e1, e2⟩ := Option.map_eq_some_iff.1 he
  simp at e2; subst e2
  have hc := (recT_ok hm ht base k).call _ _ _ _ _ e1
  rw [HT.nil_hp] at hc
  refine (EvA.base (Q := fun r => r = r1) (h0 := []) (h := h) ha (hc.mono ?_)).mono ?_
  · rintro r2 h2 ⟨rfl, rfl⟩; exact ⟨hr, rfl⟩
  · rintro r2 h2 ⟨rfl, rfl⟩; exact ⟨rfl, rfl⟩
end
end Go.Ab
