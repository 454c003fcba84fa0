/- Maps as lists of keys and values: what is looked up, put and taken away; no condition. -/
import Derived.Test.YtaahkamnpobofaaAb32
namespace Go.Ab
/-- kinds of keys: a way to write them, and that two are the same just if they are equal -/
structure KeyK (κ : Type) [DecidableEq κ] where
  d : TypeDesc
  enc : κ → Value
  ok : ∀ k, keyOk d (enc k) = true
  same : ∀ a b, Instr.sameNow d (enc a) (enc b) = some (decide (a = b))
def strK : KeyK (List UInt8) where
  d := .string
  enc l := .string (bs l)
  ok _ := rfl
  same a b := by
    simp only [Instr.sameNow, Option.some.injEq]
    rw [Bool.eq_iff_iff, bytes_beq, decide_eq_true_eq, bs_inj]
def intK : KeyK Int where
  d := .int .i64
  enc n := .int .i64 n
  ok _ := rfl
  same a b := by
    simp only [Instr.sameNow, if_true, Option.some.injEq]
    rw [Bool.eq_iff_iff, beq_iff_eq, decide_eq_true_eq]
section
variable {κ : Type} [DecidableEq κ] (K : KeyK κ)
def cellM (p : κ × Value) : Value × Value := (K.enc p.1, p.2)
/-- what lies under a key -/
def lkp (q : κ) : List (κ × Value) → Option Value
  | [] => none
  | p :: ms => if p.1 = q then some p.2 else lkp q ms
def putM (q : κ) (v : Value) : List (κ × Value) → List (κ × Value)
  | [] => [(q, v)]
  | p :: ms => if p.1 = q then (q, v) :: ms else p :: putM q v ms
theorem lkp_put (q r : κ) (v : Value) (ms : List (κ × Value)) : lkp r (putM q v ms) = if r = q then some v else lkp r ms := by
  induction ms with
  | nil => by_cases h : r = q <;> simp [putM, lkp, h]; exact fun e => absurd e.symm h
  | cons p ms ih =>
    by_cases h1 : p.1 = q
    · by_cases h2 : r = q
      · simp [putM, lkp, h1, h2]
      · have h3 : ¬ q = r := fun e => h2 e.symm
        simp [putM, lkp, h1, h2, h3]
    · simp only [putM, if_neg h1, lkp, ih]
      by_cases h2 : p.1 = r
      · have h3 : ¬ r = q := fun e => h1 (h2.trans e)
        simp [h2, h3]
      · simp [h2]
theorem findA_none (q : κ) : ∀ (ms : List (κ × Value)) (i : Nat), lkp q ms = none → findA K.d (K.enc q) (ms.map (cellM K)) i = some none := by
  intro ms
  induction ms with
  | nil => intro i _; rfl
  | cons p ms ih =>
    intro i h
    simp only [lkp] at h
    split at h
    · cases h
    · rename_i hn
      simp only [List.map_cons, findA, cellM, K.same]
      rw [decide_eq_false (fun e => hn e.symm)]
      exact ih _ h
theorem findA_some (q : κ) : ∀ (ms : List (κ × Value)) (i : Nat) (v : Value), lkp q ms = some v → ∃ j, findA K.d (K.enc q) (ms.map (cellM K)) i = some (some (i + j, v)) ∧ ∀ x, (ms.map (cellM K)).set j (K.enc q, x) = (putM q x ms).map (cellM K) := by
  intro ms
  induction ms with
  | nil => intro i v h; cases h
  | cons p ms ih =>
    intro i v h
    simp only [lkp] at h
    split at h
    · rename_i hp
      cases h
      refine ⟨0, ?_, fun x => ?_⟩
      · simp only [List.map_cons, findA, cellM, K.same]
        rw [decide_eq_true hp.symm]
        rfl
      · simp [putM, hp, cellM]
    · rename_i hn
      obtain ⟨j, h1, h2⟩ := ih (i + 1) v h
      refine ⟨j + 1, ?_, fun x => ?_⟩
      · simp only [List.map_cons, findA, cellM, K.same]
        rw [decide_eq_false (fun e => hn e.symm)]
        simp only
        rw [h1]
        congr 3
        omega
      · simp only [List.map_cons, List.set_cons_succ, putM, if_neg hn]
        rw [h2]
theorem put_new (q : κ) (v : Value) (ms : List (κ × Value)) (h : lkp q ms = none) : ms.map (cellM K) ++ [(K.enc q, v)] = (putM q v ms).map (cellM K) := by
  induction ms with
  | nil => rfl
  | cons p ms ih =>
    simp only [lkp] at h
    split at h
    · cases h
    · rename_i hn
      simp only [putM, if_neg hn, List.map_cons, List.cons_append]
      rw [ih h]
def delM (q : κ) : List (κ × Value) → List (κ × Value)
  | [] => []
  | p :: ms => if p.1 = q then ms else p :: delM q ms
theorem findA_del (q : κ) : ∀ (ms : List (κ × Value)) (i : Nat) (v : Value), lkp q ms = some v → ∃ j, findA K.d (K.enc q) (ms.map (cellM K)) i = some (some (i + j, v)) ∧ (ms.map (cellM K)).eraseIdx j = (delM q ms).map (cellM K) := by
  intro ms
  induction ms with
  | nil => intro i v h; cases h
  | cons p ms ih =>
    intro i v h
    simp only [lkp] at h
    split at h
    · rename_i hp
      cases h
      refine ⟨0, ?_, ?_⟩
      · simp only [List.map_cons, findA, cellM, K.same]
        rw [decide_eq_true hp.symm]
        rfl
      · simp [delM, hp]
    · rename_i hn
      obtain ⟨j, h1, h2⟩ := ih (i + 1) v h
      refine ⟨j + 1, ?_, ?_⟩
      · simp only [List.map_cons, findA, cellM, K.same]
        rw [decide_eq_false (fun e => hn e.symm)]
        simp only
        rw [h1]
        congr 3
        omega
      · simp only [List.map_cons, List.eraseIdx_cons_succ, delM, if_neg hn]
        rw [h2]
/-- a map in memory -/
def MapAt (h : Hp) (b : Nat) (ms : List (κ × Value)) : Prop := h[b]? = some (.map (ms.map (cellM K)))
variable {K} {P : Program} {h : Hp} {b : Nat} {ms : List (κ × Value)} {t kt et : TypeId} {z : Value}
theorem MapAt.look (m : MapAt K h b ms) (hu : P.underlying t = some (.map kt et)) (hk : P.underlying kt = some K.d) (hz : zeroV P et = some z) (q : κ) :
    lookupA P t (.map (some b)) (K.enc q) false h = some ((lkp q ms).getD z) := by
  unfold lookupA
  simp only [hu, hk, hz, K.ok, if_true]
  rw [m]
  simp only
  cases hl : lkp q ms with
  | none => rw [findA_none K q ms 0 hl]; rfl
  | some v => obtain ⟨j, h1, _⟩ := findA_some K q ms 0 v hl; rw [h1]; rfl
theorem MapAt.look2 (m : MapAt K h b ms) (hu : P.underlying t = some (.map kt et)) (hk : P.underlying kt = some K.d) (hz : zeroV P et = some z) (q : κ) :
    lookupA P t (.map (some b)) (K.enc q) true h = some (.tuple #[(lkp q ms).getD z, .bool (lkp q ms).isSome]) := by
  unfold lookupA
  simp only [hu, hk, hz, K.ok, if_true]
  rw [m]
  simp only
  cases hl : lkp q ms with
  | none => rw [findA_none K q ms 0 hl]; rfl
  | some v => obtain ⟨j, h1, _⟩ := findA_some K q ms 0 v hl; rw [h1]; rfl
theorem MapAt.put (m : MapAt K h b ms) (hu : P.underlying t = some (.map kt et)) (hk : P.underlying kt = some K.d) (q : κ) (v : Value) :
    mapUpdateA P t (.map (some b)) (K.enc q) v h = some (h.set b (.map ((putM q v ms).map (cellM K)))) := by
  unfold mapUpdateA
  simp only [hu, hk]
  rw [m]
  simp only [putA]
  cases hl : lkp q ms with
  | none =>
    rw [findA_none K q ms 0 hl]
    simp only [Option.map_some]
    rw [put_new K q v ms hl, if_pos (K.ok q)]
  | some x =>
    obtain ⟨j, h1, h2⟩ := findA_some K q ms 0 x hl
    rw [h1]
    simp only [Nat.zero_add, Option.map_some]
    rw [h2, if_pos (K.ok q)]
theorem MapAt.del (m : MapAt K h b ms) (hu : P.underlying t = some (.map kt et)) (hk : P.underlying kt = some K.d) (q : κ) {v : Value} (hl : lkp q ms = some v) :
    deleteA P t (.map (some b)) (K.enc q) h = some (h.set b (.map ((delM q ms).map (cellM K)))) := by
  unfold deleteA
  simp only [hu, hk, K.ok, if_true]
  rw [m]
  obtain ⟨j, h1, h2⟩ := findA_del K q ms 0 v hl
  simp only
  rw [h1]
  simp only [Nat.zero_add]
  rw [h2]
theorem MapAt.size (m : MapAt K h b ms) (hu : P.underlying t = some (.map kt et)) : lenA P t (.map (some b)) h = some (.int .i64 (ms.length : Nat)) := by
  unfold lenA
  rw [hu]
  simp only
  rw [m]
  simp
theorem MapAt.upd {S : Nat → Prop} {h' : Hp} (m : MapAt K h b ms) (u : Upd S h h') (hn : ¬ S b) : MapAt K h' b ms := u.at m hn
theorem MapAt.set (m : MapAt K h b ms) (ns : List (κ × Value)) : MapAt K (h.set b (.map (ns.map (cellM K)))) b ns := by
  have hb := hp_lt m
  simp only [MapAt]
  rw [List.getElem?_set_self hb]
end
end Go.Ab
