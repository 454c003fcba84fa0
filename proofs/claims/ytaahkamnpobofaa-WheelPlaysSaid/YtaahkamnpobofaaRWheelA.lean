/- The document's wheel: When, Next, Clear; no condition. -/
import Derived.Test.YtaahkamnpobofaaWheelJ
namespace Go.Proofs.Ytaahkamnpobofaa
open Go.Ab
def Th.kc (x : Th) : List Value := [.int .i64 x.key, .int .i64 x.due]
/-- the document's wheel at d, its list behind v -/
structure RWM (h : Hp) (k d : Nat) (v : Value) (L : List Th) : Prop where
  at_ : h[d]? = some (.cells [v] false none)
  sl : Sl h 2 v L.length (L.flatMap Th.kc)
  nd : ∀ j, inRow v j → j ≠ d ∧ k ≤ j ∧ j < h.length
  kd : k ≤ d
abbrev KRow (h : Hp) (v : Value) (L : List Th) : Prop := TRow h 2 v L Th.kc
section
variable {k d : Nat} {h g : Hp} {v : Value} {L : List Th} {i : Nat} {S : Nat → Prop}
theorem kcz : ∀ x ∈ L, (Th.kc x).length = 2 := fun _ _ => rfl
theorem RWM.kr (m : RWM h k d v L) : KRow h v L := ⟨m.sl.1, kcz⟩
theorem RWM.l0 (m : RWM h k d v L) : loadA Try.prog 60 (.pointer (some ⟨d, 0, none⟩)) h = some v := by rw [load_at m.at_ (by simp)]; rfl
theorem RWM.upd (m : RWM h k d v L) (u : Upd S h g) (hd : ¬ S d) (hv : ∀ j, inRow v j → ¬ S j) : RWM g k d v L := ⟨u.at m.at_ hd, m.sl.upd u hv, fun j hj => by have := m.nd j hj; have := u.len; omega, m.kd⟩
theorem RWM.same (m : RWM h k d v L) (u : Same h g) : RWM g k d v L := m.upd u (fun h => h) (fun _ _ h => h)
theorem KLen (hv : KRow h v L) : lenA Try.prog 60 v h = some (.int .i64 (L.length : Nat)) := hv.len (e := 113) (by simp)
theorem KIA (hv : KRow h v L) (hi : i < L.length) : indexAddrA Try.prog 60 v (.int .i64 (i : Nat)) = some (.pointer (some ⟨rbl v, rof v + i * 2, none⟩)) := hv.ia (e := 113) (by simp) (by simp) hi .i64
theorem KAG (hv : KRow h v L) (hi : i < L.length) : loadA Try.prog 113 (.pointer (some ⟨rbl v, rof v + i * 2, none⟩)) h = some (.agg #[.int .i64 (nth L i).key, .int .i64 (nth L i).due]) := by
  rw [nth_get hi]; exact hv.agg (by simp) (by simp) hi
theorem KC0 (hv : KRow h v L) (hi : i < L.length) : loadA Try.prog 3 (.pointer (some ⟨rbl v, rof v + i * 2, none⟩)) h = some (.int .i64 (nth L i).key) := by
  rw [nth_get hi]; exact hv.cell0 (by simp) hi (by omega)
theorem KC1 (hv : KRow h v L) (hi : i < L.length) : loadA Try.prog 3 (.pointer (some ⟨rbl v, rof v + i * 2 + 1, none⟩)) h = some (.int .i64 (nth L i).due) := by
  rw [nth_get hi]; exact hv.cell (j := 1) (by simp) hi (by omega)
/-- its list is set anew -/
theorem RWM.setv {L' : List Th} {v' : Value} (m : RWM h k d v L) (sl : Sl h 2 v' L'.length (L'.flatMap Th.kc)) (nd : ∀ j, inRow v' j → j ≠ d ∧ k ≤ j ∧ j < h.length) :
    ∃ g, storeA Try.prog 60 (.pointer (some ⟨d, 0, none⟩)) v' h = some g ∧ RWM g k d v' L' ∧ Upd (fun j => j = d) h g := by
  have hB := m.at_
  have hlt := hp_lt hB
  have hcv := (Row.one sl.1).1
  have hov := (Row.one sl.1).2
  have u : Upd (fun j => j = d) h (h.set d (.cells [v'] false none)) := Upd.set (S := (· = d)) rfl _
  exact ⟨h.set d (.cells [v'] false none), by simp [storeA, hB, hcv, hov, spl], ⟨by simp [hlt], sl.upd u fun j hj e => (nd j hj).1 e, fun j hj => by have := nd j hj; simp; omega, m.kd⟩, u⟩
def whenV (o : Option Th) : Value := match o with | some x => .tuple #[.int .i64 x.due, .bool true] | none => .tuple #[.int .i64 0, .bool false]
def findK (q : Int) (L : List Th) : Option Th := L.find? fun t => decide (t.key = q)
theorem findK_lk {H : List Th} {M : List (Int × Int)} (w : WOk H M L) (q : Int) : .tuple #[.int .i64 ((lk q M).getD 0), .bool (lk q M).isSome] = whenV (findK q L) := by
  cases hf : findK q L with
  | none =>
    have hn : lk q M = none := by
      cases hz : lk q M with
      | none => rfl
      | some n =>
        have hm := (w.map q n).1 hz
        have := List.find?_eq_none.1 hf _ hm
        simp at this
    rw [hn]; rfl
  | some t =>
    have h1 := List.mem_of_find?_eq_some hf
    have h2 : t.key = q := by simpa using List.find?_some hf
    have := (w.map t.key t.due).2 h1
    rw [h2] at this
    rw [this]; rfl
theorem rwhen_ev (m : RWM h k d v L) (hl : L.length ≤ 1000000000) (q : Int) : EvA Try.prog 36 [.pointer (some ⟨d, 0, none⟩), .int .i64 q] (fun r h' => h' = h ∧ r = whenV (findK q L)) h := by
  refine EvA.body Try.func36 rfl (by kernel_rfl) (by simp) ?_
  apply Run.ok
  have l0 := m.l0
  have kl := KLen m.kr
  simp
  refine WpA.loop (fun z fr g => ∃ i, z = L.length - i ∧ i ≤ L.length ∧ fr 0 = .pointer (some ⟨d, 0, none⟩) ∧ fr 1 = .int .i64 q ∧ fr 6 = .int .i64 (i : Nat) ∧ g = h ∧ ∀ x ∈ L.take i, x.key ≠ q)
    (k := L.length) ⟨0, by simp, by omega, by simp, by simp, by simp, rfl, by simp⟩ ?_
  rintro z fr gz ⟨i, rfl, hi, f0, f1, f6, rfl, hb⟩
  apply Run.ok
  by_cases c : i < L.length
  · have c' : (i : Int) < L.length := by omega
    have w1 : IntKind.i64.wrap ((i : Int) + 1) = (i : Int) + 1 := wrap_i64 (by omega) (by omega)
    have ia := KIA m.kr c
    have c0 := KC0 m.kr c
    have c1 := KC1 m.kr c
    by_cases e : (nth L i).key = q
    · have hf : findK q L = some (nth L i) := by
        unfold findK
        rw [List.find?_eq_some_iff_getElem]
        refine ⟨by simp [e], i, c, (nth_get c).symm, fun j hj => ?_⟩
        have := hb L[j] (List.mem_take_iff_getElem.2 ⟨j, by omega, rfl⟩)
        simp [this]
      simp [f0, f1, f6, l0, kl, ia, c0, c1, c', e, hf, whenV, -load_ptr]
    · have e' : ((nth L i).key == q) = false := by simpa using e
      simp [f0, f1, f6, l0, kl, ia, c0, c', e', w1, -load_ptr, -roundQ_normal, ↓rq]
      refine stop_intro ⟨L.length - (i + 1), by omega, i + 1, rfl, by omega, by simp [f0], by simp [f1], by simp, rfl, fun x hx => ?_⟩
      rw [take_next c] at hx
      rcases List.mem_append.1 hx with hx | hx
      · exact hb x hx
      · simp only [List.mem_singleton] at hx; subst hx; exact e
  · have c' : ¬ (i : Int) < L.length := by omega
    rw [List.take_of_length_le (by omega)] at hb
    have hf : findK q L = none := by
      unfold findK
      rw [List.find?_eq_none]
      intro x hx
      simp [hb x hx]
    simp [f0, f6, l0, kl, c', hf, whenV, -load_ptr]
theorem rnext_ev (m : RWM h k d v L) : EvA Try.prog 37 [.pointer (some ⟨d, 0, none⟩)] (fun r h' => h' = h ∧ r = nextV L) h := by
  refine EvA.body Try.func37 rfl (by kernel_rfl) (by simp) ?_
  apply Run.ok
  have l0 := m.l0
  have kl := KLen m.kr
  cases L with
  | nil => simp at kl; simp [l0, kl, nextV, -load_ptr]
  | cons x T =>
    have ia := KIA (i := 0) m.kr (by simp)
    have c1 := KC1 (i := 0) m.kr (by simp)
    rw [show ((0 : Nat) : Int) = 0 from rfl, Nat.zero_mul, Nat.add_zero] at ia
    rw [Nat.zero_mul, Nat.add_zero] at c1
    have e0 : nth (x :: T) 0 = x := rfl
    rw [e0] at c1
    have hne : (((x :: T).length : Int) == 0) = false := by simp; omega
    simp [l0, kl, hne, ia, c1, nextV, -load_ptr, -List.length_cons]
theorem appK {z : Nat} {vv : Value} {n : Nat} {xs : List Value} (A : Acc z h 2 vv n xs) (hk : z ≤ h.length) (hn : n ≤ 1000000000) (x : Th) :
    ∃ v' g, appendA Try.prog 60 60 vv (.slice (some ⟨h.length, 0, none⟩) 1 1) (h ++ [.cells [.int .i64 x.key, .int .i64 x.due] false none]) = some (v', g) ∧ Acc z g 2 v' (n + 1) (xs ++ x.kc) ∧ Upd (inRow vv) (h ++ [.cells x.kc false none]) g ∧ ∀ j, inRow v' j → inRow vv j ∨ h.length ≤ j := by
  obtain ⟨v', h', e1, e2, e3, e4⟩ := Acc.append (P := Try.prog) (t := 60) (tx := 60) (e := 113) (by_ := 16) (dx := .slice 113) (A.same (Same.new [.cells x.kc false none])) (by simp; omega) (by simp) (by simp) (by simp) rfl
    (show srcA 2 (.slice (some ⟨h.length, 0, none⟩) 1 1) (h ++ [.cells x.kc false none]) = some (1, x.kc) by simp [srcA, Th.kc]) (by simp [Th.kc]) (by simp [oneA, Th.kc]) (by omega) (by omega)
  exact ⟨v', h', e1, e2, e3, fun j hj => (e4 j hj).imp id fun h1 => by simp at h1; omega⟩
theorem rem_next {L : List Th} {i : Nat} (c : i < L.length) (q : Int) : rem q (L.take (i + 1)) = rem q (L.take i) ++ (if (nth L i).key = q then [] else [nth L i]) := by
  rw [take_next c, rem, List.filter_append]
  congr 1
  by_cases h : (nth L i).key = q <;> simp [h]
theorem rem_le (q : Int) (L : List Th) : (rem q L).length ≤ L.length := List.length_filter_le _ _
inductive RClr (h : Hp) (L : List Th) (q : Int) (d : Nat) (z : Nat) (fr : Fr) (g : Hp) : Prop
  | mk (i : Nat) (o : Value) (hz : z = L.length - i) (hi : i ≤ L.length) (f0 : fr 0 = .pointer (some ⟨d, 0, none⟩)) (f1 : fr 1 = .int .i64 q) (f5 : fr 5 = o) (f6 : fr 6 = .int .i64 (i : Nat))
      (sm : Same h g) (A : Acc h.length g 2 o (rem q (L.take i)).length ((rem q (L.take i)).flatMap Th.kc))
set_option maxHeartbeats 2000000 in
theorem rclear_ev (m : RWM h k d v L) (hl : L.length ≤ 1000000000) (q : Int) : EvA Try.prog 34 [.pointer (some ⟨d, 0, none⟩), .int .i64 q]
    (fun r h' => r = .int .i64 (if (findK q L).isSome then 0 else 5) ∧ ∃ v', RWM h' k d v' (rem q L) ∧ Upd (fun j => j = d) h h' ∧ ∀ j, inRow v' j → inRow v j ∨ h.length ≤ j) h := by
  refine EvA.body Try.func34 rfl (by kernel_rfl) (by simp) ?_
  apply Run.ok
  simp
  refine WpA.loop (RClr h L q d) (k := L.length) ⟨0, .slice none 0 0, by simp, by omega, by simp, by simp, by simp, by simp, Same.refl, Acc.nil _⟩ ?_
  rintro z fr g ⟨i, o, rfl, hi, f0, f1, f5, f6, sm, A⟩
  apply Run.ok
  have m2 := m.same sm
  have l0 := m2.l0
  have kl := KLen m2.kr
  have hlen := sm.len
  by_cases c : i < L.length
  · have c' : (i : Int) < L.length := by omega
    have w1 : IntKind.i64.wrap ((i : Int) + 1) = (i : Int) + 1 := wrap_i64 (by omega) (by omega)
    have ia := KIA m2.kr c
    have c0 := KC0 m2.kr c
    have ag := KAG m2.kr c
    have hnx := rem_next c q
    have hle := rem_le q (L.take i)
    have hle2 : (L.take i).length ≤ L.length := by simp; omega
    generalize nth L i = x at c0 ag hnx
    by_cases e : x.key = q
    · rw [if_pos e, List.append_nil] at hnx
      have e' : (x.key != q) = false := by simpa using e
      simp [f0, f1, f6, l0, kl, c', ia, c0, e', w1, -load_ptr, -roundQ_normal, ↓rq]
      exact stop_intro ⟨L.length - (i + 1), by omega, i + 1, o, rfl, by omega, by simp [f0], by simp [f1], by simp [f5], by simp, sm, by rw [hnx]; exact A⟩
    · rw [if_neg e] at hnx
      have e' : (x.key != q) = true := by simpa using e
      obtain ⟨o', g', e1, A', u', _⟩ := appK A hlen (by omega) x
      have sx : Same g (g ++ [.cells x.kc false none]) := Same.new _
      have sm' : Same h g' := Upd.trans (sm.trans sx) u' fun j hj e => by have := (A.above j e).1; omega
      simp [f0, f1, f5, f6, l0, kl, c', ia, c0, ag, e', w1, zeros, spl, capO, e1, -load_ptr, -roundQ_normal, ↓rq]
      exact stop_intro ⟨L.length - (i + 1), by omega, i + 1, o', rfl, by omega, by simp [f0], by simp [f1], by simp, by simp, sm', by rw [hnx]; simpa using A'⟩
  · have c' : ¬ (i : Int) < L.length := by omega
    have hfull : L.take i = L := List.take_of_length_le (by omega)
    rw [hfull] at A
    have ol : lenA Try.prog 60 o g = some (.int .i64 ((rem q L).length : Nat)) := KLen ⟨A.row, kcz⟩
    cases hf : findK q L with
    | none =>
      have hr : rem q L = L := by
        unfold rem
        rw [List.filter_eq_self]
        intro t ht
        have := List.find?_eq_none.1 hf t ht
        simpa using this
      rw [hr] at ol
      simp [f0, f5, f6, l0, kl, c', ol, -load_ptr]
      exact ⟨v, by rw [hr]; exact m2, sm.mono fun _ _ h => h.elim, fun j hj => .inl hj⟩
    | some t =>
      have h1 := List.mem_of_find?_eq_some hf
      have h2 : t.key = q := by simpa using List.find?_some hf
      have hlt : (rem q L).length < L.length := by
        have h3 := rem_le q L
        rcases Nat.lt_or_ge (rem q L).length L.length with h4 | h4
        · exact h4
        · have h5 : rem q L = L := List.filter_sublist.eq_of_length (by show (rem q L).length = _; omega)
          rw [← h5] at h1
          exact absurd h2 (rem_mem.1 h1).2
      have hne : (((rem q L).length : Int) == (L.length : Int)) = false := by simp; omega
      obtain ⟨g3, e3, m3, u3⟩ := m2.setv (Acc.sl A) (fun j hj => by have := A.above j hj; have := hp_lt m.at_; have := m.kd; omega)
      simp [f0, f5, f6, l0, kl, c', ol, hne, e3, -load_ptr, -store_ptr]
      exact ⟨o, m3, Upd.trans (sm.mono fun _ _ h => h.elim) u3 fun j hj e => e, fun j hj => .inr (A.above j hj).1⟩
end
end Go.Proofs.Ytaahkamnpobofaa
