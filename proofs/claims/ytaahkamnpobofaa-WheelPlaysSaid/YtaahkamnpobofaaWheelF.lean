/- Things that are due: slices.IndexFunc, slices.DeleteFunc at them; no condition. -/
import Derived.Test.YtaahkamnpobofaaWheelE
namespace Go.Proofs.Ytaahkamnpobofaa
open Go.Ab
/-- a function value that answers p of a thing, and leaves memory as it is, where memory is so -/
def TestsT (gv : Value) (Ok : Hp → Prop) (p : Th → Bool) : Prop := ∃ f cap, gv = .func (.func f) #[] cap ∧ ∀ (x : Th) g', Ok g' → EvA Try.prog f (.agg #[.int .i64 x.due, .int .i64 x.key] :: cap.toList) (fun r h' => h' = g' ∧ r = .bool (p x)) g'
section
variable {k d b : Nat} {h g : Hp} {v gv : Value} {H : List Th} {M : List (Int × Int)} {L : List Th} {S : Nat → Prop} {p : Th → Bool} {Ok : Hp → Prop}
theorem take_next {H : List Th} {i : Nat} (c : i < H.length) : H.take (i + 1) = H.take i ++ [nth H i] := by rw [nth_get c, List.take_add_one, List.getElem?_eq_getElem c]; rfl
theorem index_ev (t : TR h v H) (hl : H.length ≤ 1000000000) (hg : TestsT gv Ok p) (ok : Ok h) :
    EvA Try.prog 87 [v, gv] (fun r h' => h' = h ∧ ((r = .int .i64 (-1) ∧ ∀ x ∈ H, p x = false) ∨ ∃ i, i < H.length ∧ r = .int .i64 (i : Nat) ∧ p (nth H i) = true ∧ ∀ x ∈ H.take i, p x = false)) h := by
  obtain ⟨f, cap, rfl, hg⟩ := hg
  refine EvA.body Try.func87 rfl (by kernel_rfl) (by simp) ?_
  apply Run.ok
  have tl := TLen t
  simp [tl]
  refine WpA.loop (fun z fr g' => ∃ i, z = H.length - i ∧ i ≤ H.length ∧ fr 0 = v ∧ fr 1 = .func (.func f) #[] cap ∧ fr 7 = .int .i64 (H.length : Nat) ∧ fr 8 = .int .i64 (i : Nat) ∧ g' = h ∧ ∀ x ∈ H.take i, p x = false)
    (k := H.length) ⟨0, by simp, by omega, by simp, by simp, by simp, by simp, rfl, by simp⟩ ?_
  rintro z fr g' ⟨i, rfl, hi, f0, f1, f7, f8, rfl, hp⟩
  apply Run.ok
  by_cases c : i < H.length
  · have c' : (i : Int) < H.length := by omega
    have w1 : IntKind.i64.wrap ((i : Int) + 1) = (i : Int) + 1 := wrap_i64 (by omega) (by omega)
    have ia := TIA t c
    have ld := TAG t c
    have htk := take_next c
    simp [f0, f1, f7, f8, c', ia, ld, -load_ptr]
    refine after_call (hg (nth H i) _ ok) ?_
    rintro w h2 ⟨e2, rfl⟩
    subst e2
    cases hpx : p (nth H i) with
    | true =>
      simp
      exact ⟨i, c, rfl, hpx, hp⟩
    | false =>
      simp [f8, w1, -roundQ_normal, ↓rq]
      refine stop_intro ⟨H.length - (i + 1), by omega, i + 1, rfl, by omega, by simp [f0], by simp [f1], by simp [f7], by simp, rfl, fun x hx => ?_⟩
      rw [htk] at hx
      rcases List.mem_append.1 hx with hx | hx
      · exact hp x hx
      · simp only [List.mem_singleton] at hx; subst hx; exact hpx
  · have c' : ¬ (i : Int) < H.length := by omega
    rw [List.take_of_length_le (by omega)] at hp
    simp [f7, f8, c']
    exact hp
inductive DelLoop (h : Hp) (k : Nat) (v gv : Value) (H : List Th) (p : Th → Bool) (z : Nat) (fr : Fr) (g : Hp) : Prop
  | mk (i j : Nat) (H1 : List Th) (hz : z = H.length - j) (hij : i < j) (hj : j ≤ H.length) (f0 : fr 0 = v) (f1 : fr 1 = gv) (f5 : fr 5 = .int .i64 (i : Nat)) (f6 : fr 6 = .int .i64 (j : Nat))
      (t : TO k g v H1) (u : Upd (inRow v) h g) (hl : H1.length = H.length) (ht : H1.take i = (H.take j).filter fun x => !p x) (hd : H1.drop j = H.drop j)
theorem nth_drop_eq {H H1 : List Th} {j : Nat} (hd : H1.drop j = H.drop j) : nth H1 j = nth H j := by
  unfold nth
  have := congrArg (fun l => l.getD 0 (⟨0, 0⟩ : Th)) hd
  simpa [List.getD_eq_getElem?_getD, List.getElem?_drop] using this
theorem zeroTh : zeroT Try.prog 93 = some [.int .i64 0, .int .i64 0] := by simp
set_option maxHeartbeats 4000000 in
set_option maxRecDepth 8000 in
theorem delete_ev (t : TO k h v H) (hk : k ≤ h.length) (hl : H.length ≤ 1000000000) (hg : TestsT gv Ok p) (ok : ∀ g H', Upd (inRow v) h g → TO k g v H' → Ok g) :
    EvA Try.prog 53 [v, gv] (fun r h' => TO k h' r (H.filter fun x => !p x) ∧ Upd (inRow v) h h' ∧ ∀ j, inRow r j → inRow v j) h := by
  refine EvA.body Try.func53 rfl (by kernel_rfl) (by simp) ?_
  apply Run.ok
  simp
  refine after_call (index_ev t.tr hl hg (ok h H Upd.refl t)) ?_
  rintro w g ⟨eg, ⟨rfl, hnone⟩ | ⟨i, hi, rfl, hpi, hpre⟩⟩
  · subst eg
    have hf : H.filter (fun x => !p x) = H := by rw [List.filter_eq_self]; intro x hx; simp [hnone x hx]
    simp [hf]
    exact ⟨t, Upd.refl⟩
  · subst eg
    have hne : ((i : Int) == -1) = false := by simp
    have w0 : IntKind.i64.wrap ((i : Int) + 1) = (i : Int) + 1 := wrap_i64 (by omega) (by omega)
    have hst : H.take i = (H.take (i + 1)).filter fun x => !p x := by
      rw [take_next hi, List.filter_append, List.filter_eq_self.2 (fun x hx => by simp [hpre x hx])]
      simp [hpi]
    simp [hne, w0]
    refine WpA.loop (DelLoop g k v gv H p) (k := H.length - (i + 1)) ⟨i, i + 1, H, rfl, by omega, by omega, by simp, by simp, by simp, by simp, t, Upd.refl, rfl, hst, rfl⟩ ?_
    obtain ⟨f, cap, rfl, hg⟩ := hg
    rintro z fr g1 ⟨i, j, H1, rfl, hij, hj, f0, f1, f5, f6, t1, u1, hl1, ht, hd⟩
    apply Run.ok
    have tl := TLen t1.tr
    by_cases c : j < H.length
    · have cj : j < H1.length := by omega
      have ci : i < H1.length := by omega
      have c' : (j : Int) < (H1.length : Nat) := by omega
      have w1 : IntKind.i64.wrap ((j : Int) + 1) = (j : Int) + 1 := wrap_i64 (by omega) (by omega)
      have w2 : IntKind.i64.wrap ((i : Int) + 1) = (i : Int) + 1 := wrap_i64 (by omega) (by omega)
      have ia := TIA t1.tr cj
      have ld := TAG t1.tr cj
      rw [nth_drop_eq hd] at ld
      have hfn : (H.take (j + 1)).filter (fun x => !p x) = (H.take j).filter (fun x => !p x) ++ (if p (nth H j) = true then [] else [nth H j]) := by
        rw [take_next c, List.filter_append]
        congr 1
        cases hq : p (nth H j) <;> simp [hq]
      obtain ⟨x, hx⟩ : ∃ x, x = nth H j := ⟨_, rfl⟩
      rw [← hx] at ld hfn
      have sn : Same g1 (g1 ++ [Blk.cells x.cells false none]) := Same.new _
      have hn : (g1 ++ [Blk.cells x.cells false none])[g1.length]? = some (.cells x.cells false none) := by simp
      obtain ⟨g2, hg2⟩ : ∃ g2, g2 = g1 ++ [Blk.cells x.cells false none] := ⟨_, rfl⟩
      rw [← hg2] at sn hn
      have hg2' : g1 ++ [Blk.cells [.int .i64 x.due, .int .i64 x.key] false none] = g2 := hg2.symm
      have lx := ldT hn
      have t2 := t1.same sn
      have u2 : Upd (inRow v) g g2 := u1.trans (sn.mono fun _ _ h => h.elim) fun _ _ e => e
      have ii := TIA t2.tr ci
      simp [f0, f1, f6, tl, c', ia, ld, spl, hg2', lx, -load_ptr]
      refine after_call (hg x _ (ok g2 H1 u2 t2)) ?_
      rintro w gy ⟨ey, rfl⟩
      subst ey
      cases hq : p x with
      | true =>
        rw [hq] at hfn
        simp only [if_true, List.append_nil] at hfn
        simp [f6, w1, -roundQ_normal, ↓rq]
        refine stop_intro ⟨H.length - (j + 1), by omega, i, j + 1, H1, rfl, by omega, by omega, by simp [f0], by simp [f1], by simp [f5], by simp, t2, u2, hl1, by rw [hfn]; exact ht, ?_⟩
        rw [← List.drop_drop, hd, List.drop_drop]
      | false =>
        rw [hq] at hfn
        obtain ⟨g3, e3, t3, u3, _⟩ := t2.put ci x
        simp [f0, f5, f6, lx, ii, e3, w1, w2, -load_ptr, -store_ptr, -roundQ_normal, ↓rq]
        refine stop_intro ⟨H.length - (j + 1), by omega, i + 1, j + 1, H1.set i x, rfl, by omega, by omega, by simp [f0], by simp [f1], by simp, by simp, t3, u2.trans u3 fun _ _ e => e, by simpa using hl1, ?_, ?_⟩
        · rw [hfn, ← ht, take_next (by simpa using ci), nth_set ci, if_pos rfl, List.take_set_of_le (Nat.le_refl i)]
          simp
        · rw [List.drop_set_of_lt (by omega), ← List.drop_drop, hd, List.drop_drop]
    · have c' : ¬ (j : Int) < (H1.length : Nat) := by omega
      have hjl : j = H.length := by omega
      rw [hjl, List.take_of_length_le (Nat.le_refl _)] at ht
      obtain ⟨v4, g4, e4, e5, ⟨ys, t4⟩, u4⟩ := Ow.clearFrom (P := Try.prog) (t := 89) (e := 93) (q := .i64) (m := i) (by decide) t1 (by simp) (by simp) zeroTh rfl rfl (by omega)
      obtain ⟨v5, e6, t5, n5⟩ := Ow.hi (P := Try.prog) (t := 89) (e := 93) (q := .i64) (m := i) t4 (by simp) (by simp) (by omega)
      have hT : TO k g4 v5 (H.filter fun x => !p x) := by
        unfold TO
        have q1 : ((H1.flatMap Th.cells).take (i * 2) ++ ys).take (i * 2) = (H1.take i).flatMap Th.cells := by
          have := t1.1
          rw [List.take_append_of_le_length (by rw [List.length_take]; omega), List.take_take, Nat.min_self, flatTake H1 i thz]
        rw [q1, ht] at t5
        have hlen : (H.filter fun x => !p x).length = i := by rw [← ht, List.length_take]; omega
        rw [hlen]
        exact t5
      simp [f0, f5, f6, tl, c', e4, e5, e6]
      exact ⟨hT, u1.trans u4 fun _ _ e => e, n5⟩
end
end Go.Proofs.Ytaahkamnpobofaa
