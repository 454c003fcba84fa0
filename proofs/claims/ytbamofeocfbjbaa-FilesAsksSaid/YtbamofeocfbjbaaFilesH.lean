/- What is a tree of files: the document's answer; no condition. -/
import Derived.Test.YtbamofeocfbjbaaFilesG
namespace Go.Proofs.Ytbamofeocfbjbaa
open Go.Ab Go.Glob
theorem runder_ev (p q : Bs) (h : Hp) (hp : p.length ≤ 1000000000) (hq : q.length ≤ 1000000000) : EvA Try.prog 85 [.string (bs p), .string (bs q)] (fun r h' => h' = h ∧ r = .bool (underB p q)) h := by
  refine EvA.body Try.func85 rfl (by kernel_rfl) (by simp) ?_
  apply Run.ok
  unfold underB
  by_cases c : q.length < p.length
  · have c' : (q.length : Int) < p.length := by omega
    have e : q.length ≤ p.length := by omega
    have e' : (q.length : Int) ≤ p.length := by omega
    have u47 : ∀ c : UInt8, (((c.toNat : Nat) : Int) == 47) = decide (c = 47) := fun c => u8_beq c 47 47 rfl
    have hgd : p.getD q.length 0 = p[q.length] := by rw [List.getD_eq_getElem?_getD, List.getElem?_eq_getElem c]; rfl
    by_cases d : p.take q.length = q
    · simp [c, c', e', d, u47, bs_extract]
    · simp [c, c', e', d, bs_extract]
  · have c' : ¬ (q.length : Int) < p.length := by omega
    simp [c, c']
theorem rway_ev (p q : Bs) (h : Hp) (hp : p.length ≤ 1000000000) (hq : q.length ≤ 1000000000) : EvA Try.prog 60 [.string (bs p), .string (bs q)] (fun r h' => h' = h ∧ r = .bool (wayB p q)) h := by
  refine EvA.body Try.func60 rfl (by kernel_rfl) (by simp) ?_
  apply Run.ok
  unfold wayB
  by_cases c : p = q
  · simp [c]
  · simp [c]
    refine after_call (runder_ev p q _ hp hq) ?_
    rintro r g ⟨rfl, rfl⟩
    cases h1 : underB p q with
    | true => simp
    | false =>
      simp
      refine after_call (runder_ev q p _ hq hp) ?_
      rintro r g ⟨rfl, rfl⟩
      simp [c]
theorem stB_way {l : List Fl} (r : Rises l) {i k : Nat} (hk : k < i) (hi : i < l.length) (hw : wayB l[i].1 l[k].1 = true) : stB l = true := by
  have hne := r.ne hk hi
  simp only [wayB, Bool.or_eq_true, decide_eq_true_eq] at hw
  simp only [stB, List.any_eq_true]
  rcases hw with (hw | hw) | hw
  · exact absurd hw hne
  · exact ⟨l[i], List.getElem_mem _, l[k], List.getElem_mem _, hw⟩
  · exact ⟨l[k], List.getElem_mem _, l[i], List.getElem_mem _, hw⟩
theorem stB_none {l : List Fl} (h : ∀ i, i < l.length → ∀ k, k < i → wayB (l.getD i ([], [])).1 (l.getD k ([], [])).1 = false) : stB l = false := by
  rw [stB, List.any_eq_false]
  intro f hf h2
  obtain ⟨y, hy, h3⟩ := List.any_eq_true.1 h2
  obtain ⟨a, ha, rfl⟩ := List.getElem_of_mem hf
  obtain ⟨b, hb, rfl⟩ := List.getElem_of_mem hy
  rcases Nat.lt_trichotomy a b with h4 | rfl | h4
  · have := h b hb a h4
    rw [getD_get ha, getD_get hb] at this
    simp only [wayB, Bool.or_eq_false_iff] at this
    rw [this.2] at h3; cases h3
  · simp [underB] at h3
  · have := h a ha b h4
    rw [getD_get ha, getD_get hb] at this
    simp only [wayB, Bool.or_eq_false_iff] at this
    rw [this.1.2] at h3; cases h3
section
variable {h g : Hp} {v w : Value} {l m : List Fl} {i : Nat}
set_option maxRecDepth 100000 in
set_option maxHeartbeats 4000000 in
theorem rcheck17_ev (hv : FRow h v l) (hs : Small l) : EvA Try.prog 34 [v] (fun r h' => h' = h ∧ r = .int .i64 (checkE l : Nat)) h := by
  refine EvA.body Try.func34 rfl (by kernel_rfl) (by simp) ?_
  apply Run.ok
  have wl := FLen hv
  have hl := hs.1
  simp
  refine WpA.loop (fun z fr g => ∃ i, z = l.length - i ∧ i ≤ l.length ∧ fr 0 = v ∧ fr 3 = .int .i64 (i : Nat) ∧ g = h ∧ ∀ f ∈ l.take i, fileE f = 0)
    (k := l.length) ⟨0, by simp, by omega, by simp, by simp, rfl, by simp⟩ ?_
  rintro z fr g ⟨i, rfl, hi, f0, f3, rfl, hp⟩
  apply Run.ok
  by_cases c : i < l.length
  · have c' : (i : Int) < l.length := by omega
    have w1 : IntKind.i64.wrap ((i : Int) + 1) = (i : Int) + 1 := wrap_i64 (by omega) (by omega)
    have ia := FIA hv c
    have ag := FAG hv c
    have htk := take_next c
    have hit := firstE_hit c hp
    simp [f0, f3, wl, c', ia, ag, -load_ptr]
    refine after_call (rfile_ev l[i] _) ?_
    rintro r h2 ⟨rfl, rfl⟩
    by_cases hx : fileE l[i] = 0
    · simp [hx, f3, w1, -roundQ_normal, ↓rq]
      refine stop_intro ⟨l.length - (i + 1), by omega, i + 1, rfl, by omega, by simp [f0], by simp, rfl, fun f hf => ?_⟩
      rw [htk] at hf
      rcases List.mem_append.1 hf with h1 | h1
      · exact hp f h1
      · simp only [List.mem_singleton] at h1; subst h1; exact hx
    · have hx' : (((fileE l[i] : Nat) : Int) != 0) = true := by simp; omega
      have hc : checkE l = fileE l[i] := by unfold checkE; rw [hit hx, if_neg hx]
      simp [hx', hc]
  · have c' : ¬ (i : Int) < l.length := by omega
    rw [List.take_of_length_le (by omega)] at hp
    have hfirst := firstE_none hp
    clear hp
    simp [f0, f3, wl, c']
    refine WpA.loop (fun z fr g' => ∃ k, z = l.length - k ∧ k ≤ l.length ∧ fr 0 = v ∧ fr 5 = .int .i64 ((k : Int) + 1) ∧ g' = g ∧ ∀ j, j < k → j + 1 < l.length → less (l.getD j ([], [])) (l.getD (j + 1) ([], [])) = true)
      (k := l.length) ⟨0, by simp, by omega, by simp [f0], by simp, rfl, fun j hj => by omega⟩ ?_
    clear f0 f3 c c' hi
    rintro z fr g' ⟨k, rfl, hk, f0, f5, rfl, hr⟩
    apply Run.ok
    by_cases c : k + 1 < l.length
    · have c' : (k : Int) + 1 < l.length := by omega
      have w1 : IntKind.i64.wrap ((k : Int) + 1 + 1) = (k : Int) + 1 + 1 := wrap_i64 (by omega) (by omega)
      have w0 : IntKind.i64.wrap (k : Int) = (k : Int) := wrap_i64 (by omega) (by omega)
      have c0 : k < l.length := by omega
      have ia := FIA hv c0
      have p0 := FC0 hv c0
      have ib : indexAddrA Try.prog 44 v (.int .i64 ((k : Int) + 1)) = some (.pointer (some ⟨rbl v, rof v + (k + 1) * 2, none⟩)) := FIA hv c
      have p1 := FC0 hv c
      have hb : less (l.getD k ([], [])) (l.getD (k + 1) ([], [])) = Op.bytesLess l[k].1 l[k + 1].1 := by rw [getD_get c0, getD_get c]; rfl
      simp [f0, f5, wl, c', -load_ptr]
      refine WpA.drawnA [0, 1, 2, 3, 4, 5, 6, 7, 8, 9, 10, 11] [] (by kernel_rfl) (by decide +kernel) (by decide +kernel) ?_
      cases hbl : Op.bytesLess l[k].1 l[k + 1].1 with
      | true =>
        simp [f0, f5, w0, w1, ia, ib, p0, p1, toL, hbl, -load_ptr, -roundQ_normal, ↓rq]
        refine stop_intro ⟨l.length - (k + 1), by omega, k + 1, rfl, by omega, by simp [f0], by simp, rfl, fun j h1 h2 => ?_⟩
        rcases Nat.lt_or_ge j k with h3 | h3
        · exact hr j h3 h2
        · have : j = k := by omega
          rw [this, hb, hbl]
      | false =>
        have hc : checkE l = 4 := by
          unfold checkE
          rw [if_pos hfirst, if_neg]
          intro r
          have := r k c
          rw [hb, hbl] at this
          cases this
        simp [f0, f5, w0, ia, ib, p0, p1, toL, hbl, hc, -load_ptr]
    · have c' : ¬ (k : Int) + 1 < l.length := by omega
      have hrise : Rises l := fun j hj => hr j (by omega) hj
      clear hr
      simp [f0, f5, wl, c', -load_ptr]
      refine WpA.loop (fun z fr g => ∃ i, z = l.length - i ∧ i ≤ l.length ∧ fr 0 = v ∧ fr 6 = .int .i64 (i : Nat) ∧ g = g' ∧ ∀ a, a < i → ∀ b, b < a → wayB (l.getD a ([], [])).1 (l.getD b ([], [])).1 = false)
        (k := l.length) ⟨0, by simp, by omega, by simp [f0], by simp, rfl, fun a ha => by omega⟩ ?_
      clear f0 f5 c c' hk
      rintro z fr g ⟨i, rfl, hi, f0, f6, rfl, hU⟩
      apply Run.ok
      by_cases c : i < l.length
      · have c' : (i : Int) < l.length := by omega
        have w1 : IntKind.i64.wrap ((i : Int) + 1) = (i : Int) + 1 := wrap_i64 (by omega) (by omega)
        simp [f0, f6, wl, c', -load_ptr]
        refine WpA.loop (fun z fr g' => ∃ k, z = i - k ∧ k ≤ i ∧ fr 0 = v ∧ fr 6 = .int .i64 (i : Nat) ∧ fr 7 = .int .i64 (k : Nat) ∧ g' = g ∧ ∀ b, b < k → wayB (l.getD i ([], [])).1 (l.getD b ([], [])).1 = false)
          (k := i) ⟨0, by simp, by omega, by simp [f0], by simp [f6], by simp, rfl, fun b hb => by omega⟩ ?_
        clear f0 f6
        rintro z fr g' ⟨k, rfl, hk, f0, f6, f7, rfl, hK⟩
        apply Run.ok
        by_cases e : k < i
        · have e' : (k : Int) < i := by omega
          have w2 : IntKind.i64.wrap ((k : Int) + 1) = (k : Int) + 1 := wrap_i64 (by omega) (by omega)
          have d : k < l.length := by omega
          have ia := FIA hv c
          have p0 := FC0 hv c
          have ib := FIA hv d
          have p1 := FC0 hv d
          have hx := hs.2 l[i] (List.getElem_mem _)
          have hy := hs.2 l[k] (List.getElem_mem _)
          simp [f6, f7, e', -load_ptr]
          refine WpA.drawnA [0, 1, 2, 3, 4, 5, 6, 7, 8, 9, 10] [[], [], [], [], [], [], [], [], [], [], [0, 1, 2, 3, 4, 5, 6, 7, 8, 9]] (by kernel_rfl) (by decide +kernel) (by decide +kernel) ?_
          simp [f0, f6, f7, ia, p0, ib, p1, -load_ptr]
          refine after_call (rway_ev l[i].1 l[k].1 _ (by omega) (by omega)) ?_
          rintro r h2 ⟨rfl, rfl⟩
          cases hwy : wayB l[i].1 l[k].1 with
          | true =>
            have hc : checkE l = 50 := by
              unfold checkE
              rw [if_pos hfirst, if_pos hrise, if_pos (stB_way hrise e c hwy)]
            simp [p0, p1, hc, -load_ptr]
          | false =>
            simp [f7, p0, p1, w2, -load_ptr, -roundQ_normal, ↓rq]
            refine stop_intro ⟨i - (k + 1), by omega, k + 1, rfl, by omega, by simp [f0], by simp [f6], by simp, rfl, fun b hb => ?_⟩
            rcases Nat.lt_or_ge b k with h3 | h3
            · exact hK b h3
            · have : b = k := by omega
              rw [this, getD_get c, getD_get d, hwy]
        · have e' : ¬ (k : Int) < i := by omega
          simp [f6, f7, e', w1, -load_ptr, -roundQ_normal, ↓rq]
          refine stop_intro ⟨l.length - (i + 1), by omega, i + 1, rfl, by omega, by simp [f0], by simp, rfl, fun a ha b hb => ?_⟩
          rcases Nat.lt_or_ge a i with h3 | h3
          · exact hU a h3 b hb
          · have : a = i := by omega
            subst this
            exact hK b (by omega)
      · have c' : ¬ (i : Int) < l.length := by omega
        have hst : stB l = false := stB_none fun a ha b hb => hU a (by omega) b hb
        have hc : checkE l = fullE l := by
          unfold checkE
          rw [if_pos hfirst, if_pos hrise, hst]
          rfl
        unfold fullE at hc
        by_cases c1 : 64 < l.length
        · have c1' : (64 : Int) < l.length := by omega
          simp [f0, f6, wl, c', c1, c1', hc, -load_ptr]
        · have c1' : ¬ (64 : Int) < l.length := by omega
          simp [f0, f6, wl, c', c1', -load_ptr]
          refine after_call (rsize_ev hv hs) ?_
          rintro r h' ⟨rfl, rfl⟩
          by_cases d : 16384 < sizeL l
          · have d' : (16384 : Int) < (sizeL l : Nat) := by omega
            simp [d, d', hc]
          · have d' : ¬ (16384 : Int) < (sizeL l : Nat) := by omega
            simp [c1, d, d', hc]
end
end Go.Proofs.Ytbamofeocfbjbaa
