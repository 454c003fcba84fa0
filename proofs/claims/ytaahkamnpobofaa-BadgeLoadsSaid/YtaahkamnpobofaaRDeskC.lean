/- The document's desk: Beat, Drop; no condition. -/
import Derived.Test.YtaahkamnpobofaaRDeskB
namespace Go.Proofs.Ytaahkamnpobofaa
open Go.Ab
theorem five_set (n : Int) : ∀ (L : List Bd) (i : Nat) (hi : i < L.length), (L.flatMap Bd.five).set (i * 5 + 4) (.int .i64 n) = (L.set i { L[i] with heard := n }).flatMap Bd.five := by
  intro L
  induction L with
  | nil => intro i hi; simp at hi
  | cons x L ih =>
    intro i hi
    cases i with
    | zero => simp [Bd.five]
    | succ i =>
      have e : (i + 1) * 5 + 4 = x.five.length + (i * 5 + 4) := by simp [Bd.five]; omega
      have hi' : i < L.length := by simpa using hi
      rw [List.flatMap_cons, List.set_append_right _ _ (by omega), show (i + 1) * 5 + 4 - x.five.length = i * 5 + 4 by omega, ih i hi']
      simp
theorem beat_set {last : Int} {L : List Bd} (o : DeskOk last L) {i : Nat} (hi : i < L.length) (now : Int) : beatL L L[i].no now = L.set i { L[i] with heard := max L[i].heard now } := by
  apply List.ext_getElem
  · simp [beatL]
  · intro j h1 h2
    have hj : j < L.length := by simpa [beatL] using h1
    simp only [beatL, List.getElem_map, List.getElem_set]
    by_cases c : i = j
    · subst c; simp
    · have : L[j].no ≠ L[i].no := by
        rcases Nat.lt_or_gt_of_ne c with c | c
        · have := rising_lt o c hj; omega
        · have := rising_lt o c hi; omega
      rw [if_neg this, if_neg c]
theorem at_some {last : Int} {L : List Bd} (o : DeskOk last L) {i : Nat} (hi : i < L.length) : (atL L L[i].no).isNone = false := by rw [atL_get o hi]; rfl
theorem drop_next {L : List Bd} {i : Nat} (c : i < L.length) (q : Int) : dropL (L.take (i + 1)) q = dropL (L.take i) q ++ (if L[i].no = q then [] else [L[i]]) := by
  rw [List.take_add_one, List.getElem?_eq_getElem c, dropL, List.filter_append]
  congr 1
  by_cases h : L[i].no = q <;> simp [h]
theorem drop_le (L : List Bd) (q : Int) : (dropL L q).length ≤ L.length := List.length_filter_le _ _
section
variable {h g : Hp} {k d : Nat} {last : Int} {L : List Bd} {v : Value}
set_option maxHeartbeats 4000000 in
theorem rbeat_ev (r : RefD h k d v last L) (q now : Int) : EvA Try.prog 45 [.pointer (some ⟨d, 0, none⟩), .int .i64 q, .int .i64 now]
    (fun w h' => w = .int .i64 (beatE L q now) ∧ RStand h k d v last (if beatE L q now = 0 then beatL L q now else L) h') h := by
  refine EvA.body Try.func45 rfl (by kernel_rfl) (by simp) ?_
  apply Run.ok
  by_cases c0 : now < 0
  · have he : beatE L q now = 1 := by unfold beatE; rw [if_pos (by simp [wi]; omega)]
    rw [he]
    simp [c0]
    exact RStand.same r r Same.refl
  by_cases c1 : 2147483647 < now
  · have he : beatE L q now = 1 := by unfold beatE; rw [if_pos (by simp [wi]; omega)]
    rw [he]
    simp [c0, c1]
    exact RStand.same r r Same.refl
  have hw : ¬ wi now 0 2147483647 = false := by simp [wi]; omega
  simp [c0, c1]
  refine after_call (rat_ev r q) ?_
  rintro w g ⟨rfl, ⟨i, hi, rfl, rfl⟩ | ⟨hq, rfl⟩⟩
  · have he : beatE L L[i].no now = 0 := by unfold beatE; rw [if_neg hw, at_some r.ok hi]; simp
    have hset := beat_set r.ok hi now
    rw [he]
    have l1 := r.l1
    have ia := FIA r.fr hi
    have c4 := FC4 r.fr hi
    by_cases cn : L[i].heard < now
    · obtain ⟨g', p1, p2, p3, p4⟩ := r.row.storec (P := Try.prog) (e := 3) (x := .int .i64 now) (j := 4) (by simp) rfl hi (by omega)
      have hmx : max L[i].heard now = now := by omega
      rw [five_set now L i hi] at p2
      rw [hmx] at hset
      have hin : inRow v (rbl v) := Row.inRow r.row.row hi
      simp [l1, ia, c4, cn, p1, -load_ptr, -store_ptr]
      have hok := r.ok.beat (q := L[i].no) (now := now) (by omega) (by omega)
      rw [hset] at hok ⊢
      refine ⟨v, ⟨p3.at r.at_ (fun e => r.ne _ hin e.symm), by simpa using p2, r.ne, r.kd, hok⟩, p3.mono fun j _ e => by subst e; exact .inr hin, fun j hj => .inl hj⟩
    · have hmx : max L[i].heard now = L[i].heard := by omega
      rw [hmx] at hset
      have hset' : beatL L L[i].no now = L := by rw [hset]; show L.set i L[i] = L; simp
      simp [l1, ia, c4, cn, -load_ptr]
      rw [hset']
      exact RStand.same r r Same.refl
  · have he : beatE L q now = 60 := by unfold beatE; rw [if_neg hw, hq]; rfl
    rw [he]
    simp
    exact RStand.same r r Same.refl
inductive RDropInv (h : Hp) (L : List Bd) (q : Int) (d n : Nat) (z : Nat) (fr : Fr) (g : Hp) : Prop
  | mk (i : Nat) (o : Value) (hz : z = L.length - i) (hi : i ≤ L.length) (f0 : fr 0 = .pointer (some ⟨d, 0, none⟩)) (f5 : fr 5 = .int .i64 (n : Nat)) (f6 : fr 6 = o) (f7 : fr 7 = .int .i64 (i : Nat))
      (sm : Same h g) (A : Acc h.length g 5 o (dropL (L.take i) q).length ((dropL (L.take i) q).flatMap Bd.five))
set_option maxHeartbeats 4000000 in
theorem rdrop_ev (r : RefD h k d v last L) (q : Int) : EvA Try.prog 46 [.pointer (some ⟨d, 0, none⟩), .int .i64 q]
    (fun w h' => w = .int .i64 (if (atL L q).isNone then 60 else 0) ∧ RStand h k d v last (dropL L q) h') h := by
  refine EvA.body Try.func46 rfl (by kernel_rfl) (by simp) ?_
  apply Run.ok
  simp
  refine after_call (rat_ev r q) ?_
  rintro w g ⟨rfl, ⟨n, hn, hq, rfl⟩ | ⟨hq, rfl⟩⟩
  · have hs : (atL L q).isNone = false := by rw [← hq]; exact at_some r.ok hn
    rw [hs]
    have few := r.ok.few
    simp
    refine WpA.loop (RDropInv g L q d n) (k := L.length) ⟨0, .slice none 0 0, by simp, by omega, by simp, by simp, by simp, by simp, Same.refl, Acc.nil _⟩ ?_
    rintro z fr gz ⟨i, o, rfl, hi, f0, f5, f6, f7, sm, A⟩
    apply Run.ok
    have r2 := r.same sm
    have l1 := r2.l1
    have hl := FLen r2.fr
    by_cases c : i < L.length
    · have c' : (i : Int) < L.length := by omega
      have w1 : IntKind.i64.wrap ((i : Int) + 1) = (i : Int) + 1 := wrap_i64 (by omega) (by omega)
      have ia := FIA r2.fr c
      have ag := FAG r2.fr c
      have hnx := drop_next c q
      have hle := drop_le (L.take i) q
      have hle2 : (L.take i).length ≤ 4 := by simp; omega
      by_cases e : i = n
      · subst e
        rw [if_pos hq, List.append_nil] at hnx
        simp [f0, f5, f7, l1, hl, c', w1, -load_ptr, -roundQ_normal, ↓rq]
        exact stop_intro ⟨L.length - (i + 1), by omega, i + 1, o, rfl, by omega, by simp [f0], by simp [f5], by simp [f6], by simp, sm, by rw [hnx]; exact A⟩
      · have hne : ¬ L[i].no = q := by
          rw [← hq]
          rcases Nat.lt_or_gt_of_ne e with c | c
          · have := rising_lt r.ok c hn; omega
          · have := rising_lt r.ok c (by omega : i < L.length); omega
        rw [if_neg hne] at hnx
        have e' : ((i : Int) != n) = true := by simp; omega
        generalize L[i] = x at ag hnx hne
        obtain ⟨o', g', e1, A', u', n'⟩ := appF4 A (by have := sm.len; omega) (by omega) x
        have sx : Same gz (gz ++ [.cells x.five false none]) := Same.new _
        have sm' : Same g g' := Upd.trans (sm.trans sx) u' fun j hj e => by have := (A.above j e).1; omega
        simp [f0, f5, f6, f7, l1, hl, c', ia, ag, e', zeros, spl, capO, e1, w1, -load_ptr, -roundQ_normal, ↓rq]
        exact stop_intro ⟨L.length - (i + 1), by omega, i + 1, o', rfl, by omega, by simp [f0], by simp [f5], by simp, by simp, sm', by rw [hnx]; simpa using A'⟩
    · have c' : ¬ (i : Int) < L.length := by omega
      rw [List.take_of_length_le (by omega)] at A
      have hB := r2.at_
      have hcv := (Row.one A.row).1
      have hov := (Row.one A.row).2
      have hlt := r2.lt
      have hlt0 := r.lt
      have neo : ∀ j, inRow o j → j ≠ d := fun j hj => by have := (A.above j hj).1; omega
      have p3 : storeA Try.prog 48 (.pointer (some ⟨d, 1, none⟩)) o gz = some (gz.set d (.cells [.int .i64 last, o] false none)) := by simp [storeA, hB, hcv, hov, spl]
      simp [f0, f6, f7, l1, hl, c', p3, -load_ptr, -store_ptr]
      have u := Upd.set (S := (· = d)) (h := gz) rfl (.cells [.int .i64 last, o] false none)
      refine ⟨o, ⟨by simp [hlt], (A.upd u neo).down (by have := r.kd; omega), neo, r.kd, r.ok.drop q⟩, Upd.trans (sm.mono fun _ _ h => h.elim) u fun j hj e => .inl e, fun j hj => .inr (A.above j hj).1⟩
  · have hd : dropL L q = L := by
      unfold dropL
      rw [List.filter_eq_self]
      intro x hx
      rw [atL, List.find?_eq_none] at hq
      simpa using hq x hx
    rw [hq, hd]
    simp
    exact RStand.same r r Same.refl
end
end Go.Proofs.Ytaahkamnpobofaa
