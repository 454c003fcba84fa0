/- The evaluator of closed calls over tree heaps: what it computes; no condition. Printed by gen22.py. -/
import Derived.Test.YtojdhmkjegkfkaaAb20
namespace Go.Ab
open Go.RowKit

/-! ### memory as a tree -/
inductive HTr where
  | nil
  | node (v : Blk) (l r : HTr)
namespace HTr
noncomputable def get (t : HTr) : Nat → Blk :=
  HTr.rec (motive := fun _ => Nat → Blk) (fun _ => .dead) (fun v _ _ gl gr i => Bool.rec (Bool.rec (gr (Nat.pred (Nat.div i 2))) (gl (Nat.div i 2)) (Nat.beq (Nat.mod i 2) 1)) v (Nat.beq i 0)) t
noncomputable def sing {R : Type} (n : Nat) : Nat → Blk → (HTr → R) → R :=
  Nat.rec (motive := fun _ => Nat → Blk → (HTr → R) → R) (fun _ _ k => k .nil)
    (fun _ ih i x k => Bool.rec (Bool.rec (ih (Nat.pred (Nat.div i 2)) x (fun r => k (.node .dead .nil r))) (ih (Nat.div i 2) x (fun l => k (.node .dead l .nil))) (Nat.beq (Nat.mod i 2) 1)) (k (.node x .nil .nil)) (Nat.beq i 0)) n
noncomputable def putK {R : Type} (t : HTr) : Nat → Blk → (HTr → R) → R :=
  HTr.rec (motive := fun _ => Nat → Blk → (HTr → R) → R) (fun i x k => sing 14 i x k)
    (fun v l r pl pr i x k => Bool.rec (Bool.rec (pr (Nat.pred (Nat.div i 2)) x (fun r => k (.node v l r))) (pl (Nat.div i 2) x (fun l => k (.node v l r))) (Nat.beq (Nat.mod i 2) 1)) (k (.node x l r)) (Nat.beq i 0)) t
end HTr


structure HT where
  n : Nat
  t : HTr
noncomputable def HT.get (h : HT) (b : Nat) : Option Blk := Bool.rec none (some (HTr.get h.t b)) (Nat.ble (Nat.succ b) h.n)
/-- the same memory as a list -/
noncomputable def HT.hp (h : HT) : Hp := (List.range h.n).map h.t.get
/-- what an operation does to memory -/
inductive Eff where
  | none
  | set (b : Nat) (B : Blk)
  | push (B : Blk)
  | swap (b : Nat) (B C : Blk)
def Eff.on (h : Hp) : Eff → Hp
  | .none => h
  | .set b B => h.set b B
  | .push B => h ++ [B]
  | .swap b B C => h.set b B ++ [C]
/-! ### values are looked at ahead of use: by recursors -/
noncomputable def tList {α R : Type} (f : α → (α → R) → R) (l : List α) : (List α → R) → R :=
  List.rec (motive := fun _ => (List α → R) → R) (fun k => k []) (fun x _ ih k => f x fun x => ih fun xs => k (x :: xs)) l
noncomputable def tStr {R : Type} (s : ByteArray) (k : ByteArray → R) : R := match s with
  | ⟨⟨l⟩⟩ => tList sU8 l fun l => k ⟨⟨l⟩⟩
noncomputable def tVal1 {R : Type} (v : Value) (k : Value → R) : R := match v with
  | .bool b => sBool b fun b => k (.bool b)
  | .int kd n => sInt n fun n => k (.int kd n)
  | .string s => tStr s fun s => k (.string s)
  | .pointer (some ⟨b, o, s⟩) => sNat b fun b => sNat o fun o => k (.pointer (some ⟨b, o, s⟩))
  | .slice none n c => sNat n fun n => sNat c fun c => k (.slice none n c)
  | .slice (some ⟨b, o, s⟩) n c => sNat b fun b => sNat o fun o => sNat n fun n => sNat c fun c => k (.slice (some ⟨b, o, s⟩) n c)
  | .map (some b) => sNat b fun b => k (.map (some b))
  | v => k v
noncomputable def tVal {R : Type} (v : Value) (k : Value → R) : R := match v with
  | .agg ⟨l⟩ => tList tVal1 l fun l => k (.agg ⟨l⟩)
  | .tuple ⟨l⟩ => tList tVal1 l fun l => k (.tuple ⟨l⟩)
  | v => tVal1 v k
noncomputable def tPair {R : Type} (p : Value × Value) (k : Value × Value → R) : R := match p with
  | (x, y) => tVal x fun x => tVal y fun y => k (x, y)
noncomputable def tBlk {R : Type} (B : Blk) (k : Blk → R) : R := match B with
  | .cells cs ro op => tList tVal1 cs fun cs => k (.cells cs ro op)
  | .map es => tList tPair es fun es => k (.map es)
  | .siter s p => sNat p fun p => k (.siter s p)
  | B => k B
noncomputable def HT.put {R : Type} (h : HT) (b : Nat) (B : Blk) (k : HT → Option R) : Option R :=
  Bool.rec none (tBlk B fun B => HTr.putK h.t b B fun t => k ⟨h.n, t⟩) (Bool.rec false (Nat.ble h.n 16000) (Nat.ble (Nat.succ b) h.n))
noncomputable def HT.push {R : Type} (h : HT) (B : Blk) (k : HT → Option R) : Option R :=
  Bool.rec none (tBlk B fun B => HTr.putK h.t h.n B fun t => sNat (Nat.succ h.n) fun n => k ⟨n, t⟩) (Nat.ble (Nat.succ h.n) 16000)
noncomputable def onT {R : Type} (h : HT) (e : Eff) (k : HT → Option R) : Option R := match e with
  | .none => k h
  | .set b B => h.put b B k
  | .push B => h.push B k
  | .swap b B C => h.put b B fun h => h.push C k
/-! ### frames, eight by eight by eight -/
structure W (α : Type) where
  a0 : α
  a1 : α
  a2 : α
  a3 : α
  a4 : α
  a5 : α
  a6 : α
  a7 : α
noncomputable def W.u0 {α R : Type} (x : W α) (g : α → (α → R) → R) (k : W α → R) : R := W.rec (motive := fun _ => R) (fun a0 a1 a2 a3 a4 a5 a6 a7 => g a0 fun y => k (W.mk y a1 a2 a3 a4 a5 a6 a7)) x
noncomputable def W.u1 {α R : Type} (x : W α) (g : α → (α → R) → R) (k : W α → R) : R := W.rec (motive := fun _ => R) (fun a0 a1 a2 a3 a4 a5 a6 a7 => g a1 fun y => k (W.mk a0 y a2 a3 a4 a5 a6 a7)) x
noncomputable def W.u2 {α R : Type} (x : W α) (g : α → (α → R) → R) (k : W α → R) : R := W.rec (motive := fun _ => R) (fun a0 a1 a2 a3 a4 a5 a6 a7 => g a2 fun y => k (W.mk a0 a1 y a3 a4 a5 a6 a7)) x
noncomputable def W.u3 {α R : Type} (x : W α) (g : α → (α → R) → R) (k : W α → R) : R := W.rec (motive := fun _ => R) (fun a0 a1 a2 a3 a4 a5 a6 a7 => g a3 fun y => k (W.mk a0 a1 a2 y a4 a5 a6 a7)) x
noncomputable def W.u4 {α R : Type} (x : W α) (g : α → (α → R) → R) (k : W α → R) : R := W.rec (motive := fun _ => R) (fun a0 a1 a2 a3 a4 a5 a6 a7 => g a4 fun y => k (W.mk a0 a1 a2 a3 y a5 a6 a7)) x
noncomputable def W.u5 {α R : Type} (x : W α) (g : α → (α → R) → R) (k : W α → R) : R := W.rec (motive := fun _ => R) (fun a0 a1 a2 a3 a4 a5 a6 a7 => g a5 fun y => k (W.mk a0 a1 a2 a3 a4 y a6 a7)) x
noncomputable def W.u6 {α R : Type} (x : W α) (g : α → (α → R) → R) (k : W α → R) : R := W.rec (motive := fun _ => R) (fun a0 a1 a2 a3 a4 a5 a6 a7 => g a6 fun y => k (W.mk a0 a1 a2 a3 a4 a5 y a7)) x
noncomputable def W.u7 {α R : Type} (x : W α) (g : α → (α → R) → R) (k : W α → R) : R := W.rec (motive := fun _ => R) (fun a0 a1 a2 a3 a4 a5 a6 a7 => g a7 fun y => k (W.mk a0 a1 a2 a3 a4 a5 a6 y)) x
abbrev FT := W (W (W Value))
def W.all {α : Type} (x : α) : W α := ⟨x, x, x, x, x, x, x, x⟩
def FT.new : FT := .all (.all (.all any))
noncomputable def digG {α R : Type} (j : Nat) (k : (W α → α) → R) : R := match j with
  | 0 => k W.a0
  | 1 => k W.a1
  | 2 => k W.a2
  | 3 => k W.a3
  | 4 => k W.a4
  | 5 => k W.a5
  | 6 => k W.a6
  | _ => k W.a7
noncomputable def digU {α S R : Type} (j : Nat) (k : (W α → (α → (α → S) → S) → (W α → S) → S) → R) : R := match j with
  | 0 => k W.u0
  | 1 => k W.u1
  | 2 => k W.u2
  | 3 => k W.u3
  | 4 => k W.u4
  | 5 => k W.u5
  | 6 => k W.u6
  | _ => k W.u7
/-- how a word is read -/
noncomputable def getK {R : Type} (i : Nat) (k : (FT → Value) → R) : R :=
  bif Nat.ble i 511 then digG (Nat.div i 64) fun (x : FT → W (W Value)) => digG (Nat.mod (Nat.div i 8) 8) fun (y : W (W Value) → W Value) => digG (Nat.mod i 8) fun (z : W Value → Value) => k fun f => z (y (x f)) else k fun _ => any
/-- how a word is written -/
noncomputable def putWK {S R : Type} (i : Nat) (k : (FT → Value → (FT → S) → S) → R) : R :=
  digU (S := S) (Nat.div i 64) fun x => digU (S := S) (Nat.mod (Nat.div i 8) 8) fun y => digU (S := S) (Nat.mod i 8) fun z => k fun f v kk => x f (fun b k => y b (fun c k => z c (fun _ k => k v) k) k) kk
noncomputable def FT.get (f : FT) (i : Nat) : Value := getK i fun g => g f
noncomputable def FT.putK {S : Type} (f : FT) (i : Nat) (v : Value) (k : FT → S) : S := putWK i fun p => p f v k
/-! ### operations -/
noncomputable def loadT (P : Program) (t : TypeId) (p : Value) (h : HT) : Option Value :=
  match p with
  | .pointer (some ⟨b, o, none⟩) =>
    match h.get b with
    | some (.cells cs _ _) =>
      match aggT P t with
      | some false => cs[o]?
      | some true =>
        match sizeT P t with
        | some n => if o + n ≤ cs.length then some (.agg ((cs.drop o).take n).toArray) else none
        | none => none
      | none => none
    | _ => none
  | _ => none

noncomputable def storeT (P : Program) (t : TypeId) (p x : Value) (h : HT) : Option Eff :=
  match p with
  | .pointer (some ⟨b, o, none⟩) =>
    match h.get b with
    | some (.cells cs false op) =>
      match cellsOf x with
      | some xs => if sizeT P t = some xs.length ∧ o + xs.length ≤ cs.length ∧ xs.all oneA = true then some (Eff.set b (.cells (spl cs o xs) false op)) else none
      | none => none
    | _ => none
  | _ => none

noncomputable def convT (P : Program) (src dst : TypeId) (x : Value) (h : HT) : Option (Value × Eff) :=
  match P.underlying src, P.underlying dst, x with
  | some (.int _), some (.int k), .int _ n => some (.int k (k.wrap n), Eff.none)
  | some .string, some .string, .string s => some (.string s, Eff.none)
  | some .string, some (.slice e), .string s =>
    match P.underlying e with
    | some (.int .u8) => if s.size < 4611686018427387904 then some (.slice (some ⟨h.n, 0, none⟩) s.size (capO + s.size), Eff.push (.cells (s.data.toList.map byteV) false (some 1))) else none
    | _ => none
  | some (.slice e), some .string, .slice none 0 0 =>
    match P.underlying e with
    | some (.int .u8) => some (.string ⟨#[]⟩, Eff.none)
    | _ => none
  | some (.slice e), some .string, .slice (some ⟨_, _, some _⟩) 0 0 =>
    match P.underlying e with
    | some (.int .u8) => some (.string ⟨#[]⟩, Eff.none)
    | _ => none
  | some (.slice e), some .string, .slice (some ⟨b, o, none⟩) n _ =>
    match P.underlying e with
    | some (.int .u8) =>
      if n = 0 then some (.string ⟨#[]⟩, Eff.none) else
      match h.get b with
      | some (.cells cs _ _) =>
        if o + n ≤ cs.length then
          match bytesOf ((cs.drop o).take n) with
          | some l => some (.string ⟨l.toArray⟩, Eff.none)
          | none => none
        else none
      | _ => none
    | _ => none
  | some (.slice _), some (.slice e), .slice (some ⟨b, _, none⟩) _ _ =>
    match P.underlying e, h.get b with
    | some (.int .u8), some (.cells _ false _) => if src = dst then some (x, Eff.none) else none
    | _, _ => none
  | _, _, _ => none

noncomputable def srcT (z : Nat) (x : Value) (h : HT) : Option (Nat × List Value) :=
  match x with
  | .slice none 0 0 => some (0, [])
  | .slice (some ⟨_, _, some _⟩) 0 0 => some (0, [])
  | .slice (some ⟨b, o, none⟩) n _ =>
    if n = 0 then some (0, []) else
    match h.get b with
    | some (.cells cs _ _) => if o + n * z ≤ cs.length then some (n, (cs.drop o).take (n * z)) else none
    | _ => none
  | .string s => if z = 1 then some (s.size, s.data.toList.map byteV) else none
  | _ => none

noncomputable def oldsT (z n b o : Nat) (h : HT) : Option (List Value) :=
  if n = 0 then some [] else
  match h.get b with
  | some (.cells cs _ _) => if o + n * z ≤ cs.length then some ((cs.drop o).take (n * z)) else none
  | _ => none

noncomputable def growT (z : Nat) (xs : List Value) (n : Nat) (h : HT) : Value × Eff := (.slice (some ⟨h.n, 0, none⟩) n (capO + n), Eff.push (.cells xs false (some z)))

noncomputable def appendT (P : Program) (t tx : TypeId) (s x : Value) (h : HT) : Option (Value × Eff) :=
  match P.underlying t with
  | some (.slice e) =>
    match infoT P e, P.underlying tx with
    | some (sz, bytes, zs), some dx =>
      if isSrc dx = false then none else
      if zs ≠ sz then none else
      match srcT sz x h with
      | some (m, news) =>
        match s with
        | .slice none 0 0 => if m = 0 then some (.slice none 0 0, Eff.none) else if m * bytes ≤ 140737488355328 ∧ m < 4611686018427387904 then some (growT sz news m h) else none
        | .slice (some ⟨b, o, none⟩) n c =>
          if m = 0 then some (s, Eff.none) else
          if (n + m) * bytes ≤ 140737488355328 ∧ n + m < 4611686018427387904 then
            if c < capO then
              if n + m ≤ c then
                match h.get b with
                | some (.cells cs false op) => if o + (n + m) * sz ≤ cs.length ∧ news.all oneA = true then some (.slice (some ⟨b, o, none⟩) (n + m) c, Eff.set b (.cells (spl cs (o + n * sz) news) false op)) else none
                | _ => none
              else
                match oldsT sz n b o h with
                | some olds => some (growT sz (olds ++ news) (n + m) h)
                | none => none
            else
              match h.get b with
              | some (.cells cs false (some k)) =>
                if k = sz ∧ o + n * sz ≤ cs.length ∧ news.all oneA = true then
                  if n + m ≤ c - capO ∧ o + (n + m) * sz ≤ cs.length then some (.slice (some ⟨b, o, none⟩) (n + m) c, Eff.set b (.cells (spl cs (o + n * sz) news) false (some k)))
                  else some (.slice (some ⟨h.n, 0, Option.none⟩) (n + m) (capO + (n + m)), Eff.swap b .dead (.cells ((cs.drop o).take (n * sz) ++ news) false (some sz)))
                else none
              | _ => none
          else none
        | _ => none
      | none => none
    | _, _ => none
  | _ => none

noncomputable def copyT (P : Program) (t : TypeId) (d x : Value) (h : HT) : Option (Value × Eff) :=
  match P.underlying t with
  | some (.slice e) =>
    match sizeT P e with
    | some z =>
      match srcT z x h, d with
      | some (_, _), .slice none 0 0 => some (.int .i64 0, Eff.none)
      | some (m, xs), .slice (some ⟨b, o, none⟩) n _ =>
        if n = 0 then some (.int .i64 0, Eff.none) else
        match h.get b with
        | some (.cells cs false op) =>
          if o + min m n * z ≤ cs.length ∧ (xs.take (min m n * z)).all oneA = true then some (.int .i64 (min m n : Nat), Eff.set b (.cells (spl cs o (xs.take (min m n * z))) false op)) else none
        | _ => none
      | _, _ => none
    | none => none
  | _ => none

noncomputable def clearT (P : Program) (t : TypeId) (x : Value) (h : HT) : Option Eff :=
  match P.underlying t, x with
  | some (.map _ _), .map none => some Eff.none
  | some (.map _ _), .map (some b) =>
    match h.get b with
    | some (.map _) => some (Eff.set b (.map []))
    | _ => none
  | some (.slice _), .slice none 0 0 => some Eff.none
  | some (.slice e), .slice (some ⟨b, o, none⟩) n _ =>
    if n = 0 then some Eff.none else
    match h.get b, sizeT P e, zeroT P e with
    | some (.cells cs false op), some z, some zero => if zero.length = z ∧ o + n * z ≤ cs.length ∧ (zeros zero n).all oneA = true then some (Eff.set b (.cells (spl cs o (zeros zero n)) false op)) else none
    | _, _, _ => none
  | _, _ => none

noncomputable def lookupT (P : Program) (t : TypeId) (m k : Value) (ok : Bool) (h : HT) : Option Value :=
  match P.underlying t with
  | some (.map kt et) =>
    match P.underlying kt, zeroV P et with
    | some d, some z =>
      if keyOk d k = true then
        match m with
        | .map none => some (if ok then .tuple #[z, .bool false] else z)
        | .map (some b) =>
          match h.get b with
          | some (.map es) =>
            match findA d k es 0 with
            | some (some (_, v)) => some (if ok then .tuple #[v, .bool true] else v)
            | some none => some (if ok then .tuple #[z, .bool false] else z)
            | none => none
          | _ => none
        | _ => none
      else none
    | _, _ => none
  | _ => none

noncomputable def mapUpdateT (P : Program) (t : TypeId) (m k v : Value) (h : HT) : Option Eff :=
  match P.underlying t, m with
  | some (.map kt _), .map (some b) =>
    match P.underlying kt, h.get b with
    | some d, some (.map es) => if keyOk d k = true then (putA d k v es).map fun es' => Eff.set b (.map es') else none
    | _, _ => none
  | _, _ => none

noncomputable def rangeT (P : Program) (t : TypeId) (x : Value) (h : HT) : Option (Value × Eff) :=
  match P.underlying t, x with
  | some .string, .string s => some (.pointer (some ⟨h.n, 0, none⟩), Eff.push (.siter s 0))
  | _, _ => none

noncomputable def nextT (it : Value) (isString : Bool) (h : HT) : Option (Value × Eff) :=
  match it, isString with
  | .pointer (some ⟨b, 0, none⟩), true =>
    match h.get b with
    | some (.siter s pos) =>
      if pos < s.size then some (.tuple #[.bool true, .int .i64 (pos : Nat), .int .i32 (Utf8.decode s pos).1], Eff.set b (.siter s (pos + (Utf8.decode s pos).2)))
      else some (.tuple #[.bool false], Eff.none)
    | _ => none
  | _, _ => none

noncomputable def deleteT (P : Program) (t : TypeId) (m k : Value) (h : HT) : Option Eff :=
  match P.underlying t with
  | some (.map kt _) =>
    match P.underlying kt with
    | some d =>
      if keyOk d k = true then
        match m with
        | .map none => some Eff.none
        | .map (some b) =>
          match h.get b with
          | some (.map es) =>
            match findA d k es 0 with
            | some (some (i, _)) => some (Eff.set b (.map (es.eraseIdx i)))
            | some none => some Eff.none
            | none => none
          | _ => none
        | _ => none
      else none
    | none => none
  | _ => none

noncomputable def lenT (P : Program) (t : TypeId) (x : Value) (h : HT) : Option Value :=
  match P.underlying t, x with
  | some .string, .string s => some (.int .i64 (s.size : Nat))
  | some (.slice _), .slice none 0 0 => some (.int .i64 0)
  | some (.slice _), .slice (some ⟨_, _, some _⟩) 0 0 => some (.int .i64 0)
  | some (.slice _), .slice (some ⟨_, _, none⟩) n _ => some (.int .i64 (n : Nat))
  | some (.map _ _), .map none => some (.int .i64 0)
  | some (.map _ _), .map (some b) =>
    match h.get b with
    | some (.map es) => some (.int .i64 (es.length : Nat))
    | _ => none
  | some (.array n _), .agg _ => some (.int .i64 (n : Nat))
  | _, _ => none

noncomputable def sliceT (P : Program) (t : TypeId) (x : Value) (lo hi mx : Option Value) (h : HT) : Option Value :=
  match P.underlying t, x with
  | some .string, .string s =>
    match mx with
    | none => match bndsA s.size s.size lo hi none with
      | some (l, h, _) => some (.string (s.extract l h))
      | none => none
    | some _ => none
  | some (.slice e), .slice none 0 0 =>
    match sizeT P e, bndsA 0 0 lo hi mx with
    | some _, some _ => some (.slice none 0 0)
    | _, _ => none
  | some (.slice e), .slice (some ⟨b, o, none⟩) n c =>
    match sizeT P e with
    | some z =>
      if c < capO then
        match bndsA n c lo hi mx with
        | some (l, hh, m) => some (.slice (some ⟨b, if m = l then o else o + l * z, none⟩) (hh - l) (m - l))
        | none => none
      else
        match bndsA n (c - capO) lo hi mx with
        | some (l, hh, m) =>
          match mx with
          | some _ => if m < capO then some (.slice (some ⟨b, if m = l then o else o + l * z, none⟩) (hh - l) (m - l)) else none
          | none =>
            match h.get b with
            | some (.cells _ _ (some k)) => if k = z then some (.slice (some ⟨b, o + l * z, none⟩) (hh - l) (capO + (c - capO - l))) else none
            | _ => none
        | none => none
    | none => none
  | _, _ => none

end Go.Ab
