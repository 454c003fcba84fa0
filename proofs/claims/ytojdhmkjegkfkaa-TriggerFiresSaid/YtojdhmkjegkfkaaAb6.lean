/- What an operation does to abstract values and blocks, and that the model's operation does the same: copy, clear, len, min, max, conversions, iterators over strings, maps whose keys are numbers or texts; no condition. -/
import Derived.Test.YtojdhmkjegkfkaaAb5
namespace Go.Ab
open Go.RowKit
section
variable {P : Program} {μ : Emb} {h : Hp} {w : World}

def copyA (P : Program) (t : TypeId) (d x : Value) (h : Hp) : Option (Value × Hp) :=
  match P.underlying t with
  | some (.slice e) =>
    match sizeT P e with
    | some z =>
      match srcA z x h, d with
      | some (_, _), .slice none 0 0 => some (.int .i64 0, h)
      | some (m, xs), .slice (some ⟨b, o, none⟩) n _ =>
        if n = 0 then some (.int .i64 0, h) else
        match h[b]? with
        | some (.cells cs false op) =>
          if o + min m n * z ≤ cs.length ∧ (xs.take (min m n * z)).all oneA = true then some (.int .i64 (min m n : Nat), h.set b (.cells (spl cs o (xs.take (min m n * z))) false op)) else none
        | _ => none
      | _, _ => none
    | none => none
  | _ => none
theorem copyA_ok (hr : HRel μ h w) {t tx ty : TypeId} {d x d' x' v : Value} {h' : Hp} (hd : VRel μ d d') (hx : VRel μ x x') (hA : copyA P t d x h = some (v, h')) :
    Ran P μ h w (Builtin.copy_ #[t, tx] ty #[d', x']) v h' := by
  unfold copyA at hA
  split at hA
  case h_2 => simp at hA
  rename_i e hu
  split at hA
  case h_2 => simp at hA
  rename_i z hz
  split at hA
  · rename_i m xs hsrc
    simp at hA
    obtain ⟨rfl, rfl⟩ := hA
    cases hd
    obtain ⟨hl, hlen, hfc⟩ := srcA_ok (P := P) hr hx hsrc
    obtain ⟨arr, hf, hrel⟩ := hfc 0 (Nat.zero_le _)
    refine Ran.pure hr (v' := .int .i64 0) ?_ (.int _ _)
    simp [Builtin.copy_, run_underlying hu, hl, sizeT_run hz, hf w (fun _ _ => rfl), goInt]
  · rename_i m xs b o n c hsrc
    obtain ⟨hl, hlen, hfc⟩ := srcA_ok (P := P) hr hx hsrc
    obtain ⟨arr, hf, hrel⟩ := hfc (min m n) (Nat.min_le_left _ _)
    obtain ⟨p, a, c', hb, rfl, hc, ha⟩ := hd.slice_inv
    split at hA
    · rename_i h0
      subst h0
      simp at hA
      obtain ⟨rfl, rfl⟩ := hA
      have hn : Nat.min m 0 = 0 := Nat.min_zero m
      have ha0 : arr.toList = [] := List.eq_nil_of_length_eq_zero (by rw [← hrel.1]; simp)
      have hf' := hf w (fun _ _ => rfl)
      rw [Nat.min_zero] at hf'
      refine Ran.pure hr (v' := .int .i64 0) ?_ (.int _ _)
      simp [Builtin.copy_, run_underlying hu, hl, sizeT_run hz, hf', ha0, storeCells, goInt]
    · rename_i h0
      split at hA
      · rename_i cs op hB
        split at hA
        · rename_i hok
          simp at hA
          obtain ⟨rfl, rfl⟩ := hA
          have hlx : (xs.take (min m n * z)).length = min m n * z := by
            rw [List.length_take]
            have : min m n * z ≤ m * z := Nat.mul_le_mul_right _ (Nat.min_le_left _ _)
            omega
          obtain ⟨w', r1, r2⟩ := ran_storeCells (P := P) (xs.take (min m n * z)) arr.toList (i := 0) (o := o) hr hb hB (by omega) hrel hok.2
          refine ⟨μ, .int .i64 (min m n : Nat), w', ?_, .int _ _, r2⟩
          have hm : Nat.min m n = min m n := rfl
          rw [ha h0]
          simp [Builtin.copy_, run_underlying hu, hl, sizeT_run hz, hm, hf w (fun _ _ => rfl), r1, goInt]
        · simp at hA
      · simp at hA
  · simp at hA

def lenA (P : Program) (t : TypeId) (x : Value) (h : Hp) : Option Value :=
  match P.underlying t, x with
  | some .string, .string s => some (.int .i64 (s.size : Nat))
  | some (.slice _), .slice none 0 0 => some (.int .i64 0)
  | some (.slice _), .slice (some ⟨_, _, some _⟩) 0 0 => some (.int .i64 0)
  | some (.slice _), .slice (some ⟨_, _, none⟩) n _ => some (.int .i64 (n : Nat))
  | some (.map _ _), .map none => some (.int .i64 0)
  | some (.map _ _), .map (some b) =>
    match h[b]? with
    | some (.map es) => some (.int .i64 (es.length : Nat))
    | _ => none
  | some (.array n _), .agg _ => some (.int .i64 (n : Nat))
  | _, _ => none
theorem HRel.map (hr : HRel μ h w) {b : Nat} {p : Place} {es : List (Value × Value)} (hb : μ b = some p) (hB : h[b]? = some (.map es)) :
    ∃ l clock, w.heap[p.block]? = some (.map l clock) ∧ ERel μ es l.toList clock := (hr.obj b p _ hb hB).2
theorem run_getObj {r : Nat} {o : Obj} (ho : w.heap[r]? = some o) (hc : ∀ c e f, o ≠ .cells c e f) : (getObj r).run P w = .ok o w := by
  simp only [getObj, Sem.run, ho]
theorem lenA_ok (hr : HRel μ h w) {t ty : TypeId} {x x' v : Value} (hx : VRel μ x x') (hA : lenA P t x h = some v) : (Builtin.len_ #[t] ty #[x']).run P w = .ok v w ∧ VRel μ v v := by
  unfold lenA at hA
  split at hA
  · rename_i hu; cases hx; simp at hA; subst hA; exact ⟨by simp [Builtin.len_, run_underlying hu, goInt], .int _ _⟩
  · rename_i hu; cases hx; simp at hA; subst hA; exact ⟨by simp [Builtin.len_, run_underlying hu, goInt], .int _ _⟩
  · rename_i hu; cases hx; simp at hA; subst hA; exact ⟨by simp [Builtin.len_, run_underlying hu, goInt], .int _ _⟩
  · rename_i hu
    obtain ⟨p, a, c', hb, rfl, hc, ha⟩ := hx.slice_inv
    simp at hA; subst hA; exact ⟨by simp [Builtin.len_, run_underlying hu, goInt], .int _ _⟩
  · rename_i hu; cases hx; simp at hA; subst hA; exact ⟨by simp [Builtin.len_, run_underlying hu, goInt], .int _ _⟩
  · rename_i hu
    split at hA
    · rename_i es hB
      cases hx with
      | map hb =>
        obtain ⟨l, clock, h1, h2⟩ := hr.map hb hB
        simp at hA; subst hA
        refine ⟨?_, .int _ _⟩
        have := h2.len
        simp at this
        simp [Builtin.len_, run_underlying hu, goInt, run_getObj (P := P) h1 (by simp), this]
    · simp at hA
  · rename_i hu; cases hx; simp at hA; subst hA; exact ⟨by simp [Builtin.len_, run_underlying hu, goInt], .int _ _⟩
  · simp at hA

def clearA (P : Program) (t : TypeId) (x : Value) (h : Hp) : Option Hp :=
  match P.underlying t, x with
  | some (.map _ _), .map none => some h
  | some (.map _ _), .map (some b) =>
    match h[b]? with
    | some (.map _) => some (h.set b (.map []))
    | _ => none
  | some (.slice _), .slice none 0 0 => some h
  | some (.slice e), .slice (some ⟨b, o, none⟩) n _ =>
    if n = 0 then some h else
    match h[b]?, sizeT P e, zeroT P e with
    | some (.cells cs false op), some z, some zero => if zero.length = z ∧ o + n * z ≤ cs.length ∧ (zeros zero n).all oneA = true then some (h.set b (.cells (spl cs o (zeros zero n)) false op)) else none
    | _, _, _ => none
  | _, _ => none
theorem Step.setMap (hr : HRel μ h w) {b : Nat} {p : Place} {es es' : List (Value × Value)} {l' : Array MapEntry} {clock' : Nat} (hb : μ b = some p) (hB : h[b]? = some (.map es)) (hE : ERel μ es' l'.toList clock') :
    (setObj p.block (.map l' clock')).run P w = .ok () { w with heap := w.heap.setIfInBounds p.block (.map l' clock') } ∧
    Step μ h w μ (h.set b (.map es')) { w with heap := w.heap.setIfInBounds p.block (.map l' clock') } := by
  obtain ⟨l, clock, h1, h2⟩ := hr.map hb hB
  have hlt := (hr.dom b p hb).2
  refine ⟨by simp [setObj, Sem.run, h1], Step.write hr hb hB rfl _ (fun _ => rfl) rfl rfl rfl (by simp) (fun k hk => ?_) ⟨(hr.obj b p _ hb hB).1, l', clock', ?_, hE⟩⟩
  · simp only [Array.getElem?_setIfInBounds]
    rw [if_neg (by omega)]
  · simp [hlt]
theorem clearA_ok (hr : HRel μ h w) {t ty : TypeId} {x x' : Value} {h' : Hp} (hx : VRel μ x x') (hA : clearA P t x h = some h') : Ran P μ h w (Builtin.clear_ #[t] ty #[x']) any h' := by
  unfold clearA at hA
  split at hA
  · rename_i hu; cases hx; simp at hA; subst hA; exact Ran.pure hr (v' := .tuple #[]) (by simp [Builtin.clear_, run_underlying hu]) (.any _)
  · rename_i hu
    split at hA
    · rename_i es hB
      simp at hA; subst hA
      cases hx with
      | map hb =>
        obtain ⟨l, clock, h1, h2⟩ := hr.map hb hB
        obtain ⟨s1, s2⟩ := Step.setMap (P := P) hr (es' := []) (l' := #[]) (clock' := clock) hb hB ⟨rfl, by simp, by simp, by simp⟩
        exact ⟨μ, .tuple #[], _, by simp [Builtin.clear_, run_underlying hu, run_getObj (P := P) h1 (by simp), s1], .any _, s2⟩
    · simp at hA
  · rename_i hu; cases hx; simp at hA; subst hA; exact Ran.pure hr (v' := .tuple #[]) (by simp [Builtin.clear_, run_underlying hu]) (.any _)
  · rename_i e b o n c hu
    obtain ⟨p, a, c', hb, rfl, hc, ha⟩ := hx.slice_inv
    split at hA
    · rename_i h0
      subst h0
      simp at hA; subst hA
      exact Ran.pure hr (v' := .tuple #[]) (by simp [Builtin.clear_, run_underlying hu]) (.any _)
    · rename_i h0
      split at hA
      · rename_i cs op z zero hB hz hzero
        obtain ⟨zv, hzr, rfl⟩ := zeroT_run hzero
        split at hA
        · rename_i hok
          simp at hA; subst hA
          have hzs : zv.cells.size = z := by simpa using hok.1
          have hrel := zeros_rel (μ := μ) zv.cells n (n * zv.cells.size) rfl
          obtain ⟨w', r1, r2⟩ := ran_storeCells (P := P) _ _ (i := 0) (o := o) hr hb hB (by rw [zeros_length]; simp [hzs]; omega) hrel hok.2.2
          refine ⟨μ, .tuple #[], w', ?_, .any _, r2⟩
          rw [ha h0]
          obtain ⟨n, rfl⟩ : ∃ k, n = k + 1 := ⟨n - 1, by omega⟩
          simp only [Builtin.clear_]
          simp [run_underlying hu, hzr, Builtin.zeroCells] at r1 ⊢
          simp [r1]
        · simp at hA
      · simp at hA
  · simp at hA

/-! ### conversions -/
def bytesOf : List Value → Option (List UInt8)
  | [] => some []
  | .int .u8 n :: r => (bytesOf r).map (UInt8.ofNat n.toNat :: ·)
  | _ => none
theorem bytesOf_enc (l : List UInt8) : bytesOf (l.map byteV) = some l := by
  induction l with
  | nil => rfl
  | cons b l ih => simp [byteV, bytesOf] at ih ⊢; simp [ih]
theorem bytesOf_rel : ∀ (cs vs : List Value) (l : List UInt8), LRel μ cs vs → bytesOf cs = some l → ∃ ns : List Int, vs = ns.map (Value.int .u8) ∧ l = ns.map fun n => UInt8.ofNat n.toNat := by
  intro cs
  induction cs with
  | nil => intro vs l hr hb; rw [LRel.nil_inv hr]; simp [bytesOf] at hb; subst hb; exact ⟨[], rfl, rfl⟩
  | cons c cs ih =>
    intro vs l hr hb
    obtain ⟨y, ys, rfl, h1, h2⟩ := LRel.cons_inv hr
    unfold bytesOf at hb
    split at hb
    · simp at *
    · rename_i n r heq
      simp at heq
      obtain ⟨rfl, rfl⟩ := heq
      obtain ⟨l', hl', rfl⟩ := Option.map_eq_some_iff.1 hb
      obtain ⟨ns, rfl, rfl⟩ := ih ys l' h2 hl'
      cases h1
      exact ⟨n :: ns, rfl, rfl⟩
    · simp at hb
theorem foldl_push (ns : List Int) : ∀ (s : ByteArray), ns.foldl (fun r n => r.push (UInt8.ofNat n.toNat)) s = ⟨s.data ++ (ns.map fun n => UInt8.ofNat n.toNat).toArray⟩ := by
  induction ns with
  | nil => intro s; simp
  | cons n ns ih =>
    intro s
    simp only [List.foldl_cons, ih]
    congr 1
    apply Array.ext'
    simp [ByteArray.push]

def convA (P : Program) (src dst : TypeId) (x : Value) (h : Hp) : Option (Value × Hp) :=
  match P.underlying src, P.underlying dst, x with
  | some (.int _), some (.int k), .int _ n => some (.int k (k.wrap n), h)
  | some .string, some .string, .string s => some (.string s, h)
  | some .string, some (.slice e), .string s =>
    match P.underlying e with
    | some (.int .u8) => if s.size < 4611686018427387904 then some (.slice (some ⟨h.length, 0, none⟩) s.size (capO + s.size), h ++ [.cells (s.data.toList.map byteV) false (some 1)]) else none
    | _ => none
  | some (.slice e), some .string, .slice none 0 0 =>
    match P.underlying e with
    | some (.int .u8) => some (.string ⟨#[]⟩, h)
    | _ => none
  | some (.slice e), some .string, .slice (some ⟨_, _, some _⟩) 0 0 =>
    match P.underlying e with
    | some (.int .u8) => some (.string ⟨#[]⟩, h)
    | _ => none
  | some (.slice e), some .string, .slice (some ⟨b, o, none⟩) n _ =>
    match P.underlying e with
    | some (.int .u8) =>
      if n = 0 then some (.string ⟨#[]⟩, h) else
      match h[b]? with
      | some (.cells cs _ _) =>
        if o + n ≤ cs.length then
          match bytesOf ((cs.drop o).take n) with
          | some l => some (.string ⟨l.toArray⟩, h)
          | none => none
        else none
      | _ => none
    | _ => none
  | some (.slice _), some (.slice e), .slice (some ⟨b, _, none⟩) _ _ =>
    match P.underlying e, h[b]? with
    | some (.int .u8), some (.cells _ false _) => if src = dst then some (x, h) else none
    | _, _ => none
  | _, _, _ => none

theorem Step.stringish (hr : HRel μ h w) {b : Nat} {p : Place} {cs : List Value} {op : Option Nat} (hb : μ b = some p) (hB : h[b]? = some (.cells cs false op)) {o' : Nat} :
    ∃ w', (markStringish ⟨p.block, o', none⟩).run P w = .ok () w' ∧ Step μ h w μ h w' := by
  obtain ⟨g1, g2, g3, g4, g5⟩ := hr.obj b p _ hb hB
  obtain ⟨C, t, lo, hi, q1, q2, q3⟩ := g5 rfl
  refine ⟨w.freeze ⟨p.block, C.size, none⟩ 1, by simp [markStringish, World.shape?, q1], ?_⟩
  have hheap : ∀ k, (w.freeze ⟨p.block, C.size, none⟩ 1).heap[k]? = if k = p.block then some (.cells C t (if lo == hi then (C.size, C.size + 1) else (min lo C.size, max hi (C.size + 1)))) else w.heap[k]? := by
    intro k
    simp only [World.freeze, Nat.one_ne_zero, if_false, Array.getElem?_modify]
    by_cases hk : p.block = k
    · subst hk
      simp only [if_true, q1, Option.map_some]
    · rw [if_neg hk, if_neg (fun h => hk h.symm)]
  have hs : (w.freeze ⟨p.block, C.size, none⟩ 1).heap.size = w.heap.size := by simp [World.freeze]
  have s := Step.write hr hb hB rfl (.cells cs false op) (fun _ => rfl) (w' := w.freeze ⟨p.block, C.size, none⟩ 1) (by simp [World.freeze]) (by simp [World.freeze]) (by simp [World.freeze]) hs.symm (fun k hk => by rw [hheap, if_neg hk]) ⟨g1, g2, g3, ?_, ?_⟩
  · rw [set_same hB] at s
    exact s
  · intro o v hv
    obtain ⟨v', h1, h2⟩ := g4 o v hv
    refine ⟨v', ?_, h2⟩
    simp only [World.cell?, hheap, if_true]
    simpa [World.cell?, q1] using h1
  · intro _
    refine ⟨C, t, _, _, by rw [hheap, if_pos rfl], q2, ?_⟩
    right
    split
    · exact Nat.le_refl _
    · rename_i hne
      rcases q3 with rfl | q3
      · simp at hne
      · simp; omega

theorem convA_ok (hr : HRel μ h w) {src dst : TypeId} {x x' v : Value} {h' : Hp} (hx : VRel μ x x') (hA : convA P src dst x h = some (v, h')) : Ran P μ h w (convert src dst x') v h' := by
  unfold convA at hA
  split at hA
  · rename_i hs hd
    cases hx; simp at hA; obtain ⟨rfl, rfl⟩ := hA
    exact Ran.pure hr (v' := .int _ _) (by simp [convert, run_underlying hs, run_underlying hd, Conv.intToInt]) (.int _ _)
  · rename_i hs hd
    cases hx; simp at hA; obtain ⟨rfl, rfl⟩ := hA
    exact Ran.pure hr (v' := .string _) (by simp [convert, run_underlying hs, run_underlying hd]) (.string _)
  · rename_i e s hs hd
    split at hA
    · rename_i he
      split at hA
      · rename_i hsz
        cases hx; simp at hA; obtain ⟨rfl, rfl⟩ := hA
        let arr : Array Value := s.data.map byteV ++ Array.replicate (grownCap w s.size 0 e - s.size) (.int .u8 0)
        have hcap := grownCap_le' w s.size 0 e
        have hasz : arr.size = grownCap w s.size 0 e := by
          have : s.data.size = s.size := rfl
          simp [arr, this]; omega
        have s1 := Step.row (Step.drew hr).rel arr e (s.data.toList.map byteV) (some 1) 1 (by simp) (by simp) (by simp [hasz]; exact hcap) (by
          intro o v hv
          rw [List.getElem?_map] at hv
          obtain ⟨q, hq, rfl⟩ := Option.map_eq_some_iff.1 hv
          refine ⟨byteV q, ?_, .int _ _⟩
          rw [Array.getElem?_toList] at hq
          have ho : o < s.data.size := by
            rcases Nat.lt_or_ge o s.data.size with h' | h'
            · exact h'
            · rw [Array.getElem?_eq_none h'] at hq; simp at hq
          simp only [arr]
          rw [Array.getElem?_append_left (by simpa using ho)]
          simp [hq])
        have s2 := (Step.drew hr).trans s1
        obtain ⟨w', f1, f2⟩ := Step.stringish (P := P) (o' := 0) s2.rel (b := h.length) (cs := s.data.toList.map byteV) (op := some 1) (Emb.put_new _ _ _) (by simp)
        refine ⟨_, .slice (some ⟨w.heap.size, 0, none⟩) s.size (grownCap w s.size 0 e), w', ?_, ?_, s2.trans f2⟩
        · have hb : (fun b : UInt8 => Value.int .u8 (b.toNat : Int)) = byteV := rfl
          have hq : ∀ t, (Question.appendCap s.size 0 e).cut t = s.size + t % (2 ^ 63 - s.size) := fun t => rfl
          simp only [convert, Sem.run_bind, run_underlying hs, run_underlying hd, Result.andThen_ok, run_underlying he, Conv.stringToBytes, run_choose, Question.forced]
          simp only [Bool.false_eq_true, if_false, Result.andThen_ok, newRow, Sem.run_bind, run_newObj, Sem.run_pure, hb]
          have : (markStringish ⟨w.drew.heap.size, 0, none⟩).run P (w.drew.alloc (.cells arr e)) = .ok () w' := f1
          simp only [arr, World.drew, World.alloc, grownCap] at this
          rw [this]
          simp [grownCap]
        · have := VRel.slO (μ := μ.put h.length ⟨w.drew.heap.size, 0, arr.size, 1⟩) (b := h.length) 0 s.size s.size (grownCap w s.size 0 e) (Emb.put_new _ _ _) (Nat.le_refl _) hcap (by simp only [hasz]; omega)
          simpa using this
      · simp at hA
    · simp at hA
  · rename_i e hs hd
    split at hA
    · rename_i he
      cases hx; simp at hA; obtain ⟨rfl, rfl⟩ := hA
      exact Ran.pure hr (v' := .string ⟨#[]⟩) (by simp [convert, run_underlying hs, run_underlying hd, run_underlying he, Conv.bytesToString]; rfl) (.string _)
    · simp at hA
  · rename_i e _ _ _ hs hd
    split at hA
    · rename_i he
      simp at hA; obtain ⟨rfl, rfl⟩ := hA
      cases hx with
      | slD a =>
        refine Ran.pure hr (v' := .string ⟨#[]⟩) ?_ (.string _)
        rw [run_convert_bytes_string w src dst e (some a) 0 0 hs he hd, run_bytesToString w a 0 0 [] (by simp [loadCells, loadCellsFrom])]
        rfl
    · simp at hA
  · rename_i e b o n c hs hd
    split at hA
    case h_2 => simp at hA
    rename_i he
    obtain ⟨p, a, c', hb, rfl, hc, ha⟩ := hx.slice_inv
    split at hA
    · rename_i h0
      subst h0
      simp at hA; obtain ⟨rfl, rfl⟩ := hA
      refine Ran.pure hr (v' := .string ⟨#[]⟩) ?_ (.string _)
      rw [run_convert_bytes_string w src dst e (some a) 0 c' hs he hd, run_bytesToString w a 0 c' [] (by simp [loadCells, loadCellsFrom])]
      rfl
    · rename_i h0
      split at hA
      case h_2 => simp at hA
      rename_i cs ro op hB
      split at hA
      case isFalse => simp at hA
      rename_i hle
      split at hA
      case h_2 => simp at hA
      rename_i l hl
      simp at hA; obtain ⟨rfl, rfl⟩ := hA
      obtain ⟨vs, h1, h2⟩ := hr.cells (P := P) (o := o) (n := n) hb hB hle
      obtain ⟨ns, rfl, rfl⟩ := bytesOf_rel _ _ _ h2 hl
      refine Ran.pure hr (v' := .string ⟨(ns.map fun n => UInt8.ofNat n.toNat).toArray⟩) ?_ (.string _)
      rw [run_convert_bytes_string w src dst e (some a) n c' hs he hd, run_bytesToString w a n c' ns (by rw [ha h0]; exact h1 w rfl), foldl_push]
      simp [ByteArray.empty, ByteArray.emptyWithCapacity]
      rfl
  · rename_i e0 e b o n c hs hd
    split at hA
    case h_2 => simp at hA
    rename_i he hB
    split at hA
    case isFalse => simp at hA
    rename_i hsd
    subst hsd
    simp at hA; obtain ⟨rfl, rfl⟩ := hA
    have hee : e0 = e := by rw [hs] at hd; simpa using hd
    subst hee
    obtain ⟨p, o', c', hb, rfl⟩ := hx.slice_inv2
    obtain ⟨w', f1, f2⟩ := Step.stringish (P := P) (o' := o') hr hb hB
    exact ⟨μ, _, w', by simp [convert, run_underlying hs, run_underlying he, f1], hx, f2⟩
  · simp at hA
end
end Go.Ab
