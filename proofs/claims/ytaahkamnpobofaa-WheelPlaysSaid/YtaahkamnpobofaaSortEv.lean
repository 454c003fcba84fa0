/- slices.SortFunc at things that are due: its contract over heaps; no condition. -/
import Derived.Test.YtaahkamnpobofaaSortTh
import Derived.Test.YtaahkamnpobofaaBridge
import Derived.Test.YtaahkamnpobofaaWheelG
namespace Go.Proofs.Ytaahkamnpobofaa
open Go Go.Proofs Go.RowKit Go.Sort Go.Ab
theorem flatT_get : ∀ (H : List Th) (j : Nat), j < H.length * 2 → (H.flatMap Th.cells)[j]? = some ((encT (nth H (j / 2)))[j % 2]!) := by
  intro H
  induction H with
  | nil => intro j hj; simp at hj
  | cons x H ih =>
    intro j hj
    match j with
    | 0 => rfl
    | 1 => rfl
    | j + 2 =>
      have h1 : (j + 2) / 2 = j / 2 + 1 := by omega
      have h2 : (j + 2) % 2 = j % 2 := by omega
      have h3 : nth (x :: H) (j / 2 + 1) = nth H (j / 2) := rfl
      rw [h1, h2, h3, ← ih j (by simp at hj; omega)]
      simp [Th.cells]
theorem flatT_len (H : List Th) : (H.flatMap Th.cells).length = H.length * 2 := by
  induction H with
  | nil => rfl
  | cons x H ih => simp only [List.flatMap_cons, List.length_append, ih, List.length_cons]; simp [Th.cells]; omega
theorem arr_nth {d : Array Th} {i : Nat} (h : i < d.size) : d[i]! = nth d.toList i := by simp [nth, h]
theorem flatK_T {d : Array Th} {j : Nat} (hj : j < d.size * 2) : (d.toList.flatMap Th.cells)[j]? = some ((flatK encT 2 d)[j]!) := by
  rw [get_flatK encT 2 d j hj, arr_nth (by omega), flatT_get d.toList j (by simpa using hj)]
theorem one_T {H : List Th} {j : Nat} {x : Value} (h : (H.flatMap Th.cells)[j]? = some x) : ∃ n, x = .int .i64 n := by
  obtain ⟨y, hy, hx⟩ := List.mem_flatMap.1 (List.mem_of_getElem? h)
  simp [Th.cells] at hx
  rcases hx with e | e
  · exact ⟨_, e⟩
  · exact ⟨_, e⟩
section
variable {k d b : Nat} {h g : Hp} {v gv : Value} {H : List Th} {M : List (Int × Int)} {L : List Th} {S : Nat → Prop}
set_option maxHeartbeats 1000000 in
theorem sort_ev (t : TO k h v H) (h0 : 0 < H.length) (hl : H.length ≤ 1000000000) :
    EvA Try.prog 56 [v, .func (.func 57) #[] #[]]
      (fun _ h' => ∃ H', H'.Perm H ∧ H'.Pairwise (fun a b => ¬ Th.lt b a) ∧ TO k h' v H' ∧ Upd (inRow v) h h') h := by
  refine ⟨by kernel_rfl, fun μ w vs hr hv => ?_⟩
  obtain ⟨c, rest, op, hvv, hB, hlen, hput⟩ := Ow.put t h0
  have hin : inRow v (rbl v) := Row.inRow t.tr.1 h0
  obtain ⟨b, hb⟩ : ∃ b, b = rbl v := ⟨_, rfl⟩
  rw [← hb] at hvv hB hput hin
  -- the arguments
  obtain ⟨y0, y1, hvs, r0, r1⟩ : ∃ y0 y1, vs = #[y0, y1] ∧ VRel μ v y0 ∧ VRel μ (.func (.func 57) #[] #[]) y1 := by
    have h2 := hv.1
    simp at h2
    match vs, h2 with
    | ⟨[y0, y1]⟩, _ => exact ⟨y0, y1, rfl, hv.2 0 _ _ rfl rfl, hv.2 1 _ _ rfl rfl⟩
  have hy1 : y1 = .func (.func 57) #[] #[] := by
    cases r1 with
    | func a1 a2 a3 a4 =>
      rename_i xs' ys'
      have e1 : xs' = #[] := Array.eq_empty_of_size_eq_zero a1.symm
      have e2 : ys' = #[] := Array.eq_empty_of_size_eq_zero a2.symm
      rw [e1, e2]
  obtain ⟨e, c', hmu, hy0⟩ : ∃ (e : Ab.Place) (c' : Nat), μ b = some e ∧ y0 = .slice (some ⟨e.block, e.off, none⟩) H.length c' := by
    rw [hvv] at r0
    generalize H.length = n at r0 h0
    cases r0 with
    | sl o n c hm hc hn => exact ⟨_, c, hm, by simp⟩
    | slO o n l c hm hn hl hx => exact ⟨_, c, hm, by simp⟩
    | slE o o' hm => omega
    | slZ o o' hm => omega
  subst hvs hy1 hy0
  have hO := hr.obj b e _ hmu hB
  obtain ⟨o1, o2, o3, o4, o5⟩ := hO
  have hblk := (hr.dom b e hmu).2
  have hrw := o5 rfl
  have hfl := flatT_len H
  have hcsl : (H.flatMap Th.cells ++ rest).length ≤ e.ext := o1
  have hol : H.length * 2 ≤ e.ext := by rw [List.length_append] at hcsl; omega
  have cell : ∀ j, j < H.length * 2 → w.cell? ⟨e.block, e.off + j, none⟩ = some ((flatK encT 2 H.toArray)[j]!) ∧ w.frozen? ⟨e.block, e.off + j, none⟩ = false := by
    intro j hj
    have q := flatK_T (d := H.toArray) (j := j) (by simpa using hj)
    have q' : (H.flatMap Th.cells ++ rest)[j]? = some ((flatK encT 2 H.toArray)[j]!) := by rw [List.getElem?_append_left (by omega)]; simpa using q
    obtain ⟨v', hc, hvr⟩ := o4 j _ q'
    obtain ⟨n, hn⟩ := one_T (H := H) (by simpa using q)
    rw [hn] at hvr ⊢
    cases hvr
    exact ⟨hc, (rwcell (w := w) (e := e) hrw j (by omega)).2⟩
  have hH : HoldsK encT 2 w e.block e.off H.toArray := by
    intro j hj
    rw [size_flatK] at hj
    exact cell j (by simpa using hj)
  have run := sort_raw e.block e.off c' H.toArray w hH hblk (by simp; omega)
  rw [List.size_toArray] at run
  refine run.mono ?_
  rintro en w' ⟨rfl, d', n, os, hp, hs, rfl⟩
  obtain ⟨p1, _, p3⟩ := hp
  have hsz : d'.size = H.length := by simpa using p1
  have hd'l : d'.toList.length = H.length := by simpa using hsz
  have hperm : d'.toList.Perm H := by
    have e1 : d'.extract 0 H.length = d' := by rw [← hsz]; exact Array.extract_size
    have e2 : H.toArray.extract 0 H.length = H.toArray := by
      simp
    have p3' : (d'.extract 0 H.length).toList.Perm (H.toArray.extract 0 H.length).toList := by simpa using p3
    rw [e1, e2] at p3'
    simpa using p3'
  have hsort : d'.toList.Pairwise (fun a b => ¬ Th.lt b a) := by
    rw [List.pairwise_iff_getElem]
    intro i j hi hj hij
    have := hs i j (Nat.zero_le _) hij (by simp at hj ⊢; omega)
    rw [ltOf_T, arr_nth (by simpa using hj), arr_nth (by simpa using hi), nth_get hj, nth_get hi] at this
    simpa using this
  have hfl' : (d'.toList.flatMap Th.cells).length = H.length * 2 := by rw [flatT_len, hd'l]
  -- draws
  have s1 : Step μ h w μ h (Sort.ahead w n) := Step.below hr ⟨rfl, rfl, rfl, Nat.le_refl _, fun _ _ => rfl⟩
  -- the row
  have hH1 : Holds id (Sort.ahead w n) e.block e.off (flatK encT 2 H.toArray) := hH
  have hszK : (flatK encT 2 d').size = (flatK encT 2 H.toArray).size := by simp [hsz]
  obtain ⟨C, tC, lo, hi, hC, hCs, hCf⟩ := hrw
  have s2 : Step μ h (Sort.ahead w n) μ (h.set b (.cells (d'.toList.flatMap Th.cells ++ rest) false op)) (putRowK encT 2 (Sort.ahead w n) e.block e.off d') := by
    refine Step.write s1.rel hmu hB rfl _ (fun _ => rfl) rfl rfl rfl (by simp [putRowK]) ?_ ?_
    · intro k' hk'
      simp only [putRowK, putRow, mapBlock, Array.getElem?_modify]
      rw [if_neg (fun e => hk' e.symm)]
    · refine ⟨by simp only [List.length_append] at o1 ⊢; omega, fun e => by rw [o2 e]; simp only [List.length_append]; omega, o3, ?_, fun _ => ?_⟩
      · intro o x hx
        by_cases ho : o < H.length * 2
        · rw [List.getElem?_append_left (by omega)] at hx
          have q := flatK_T (d := d') (j := o) (by omega)
          rw [hx] at q
          have q2 := cell?_putRow id (Sort.ahead w n) e.block e.off _ (flatK encT 2 d') hH1 hszK o (by simp; omega)
          obtain ⟨m, hm⟩ := one_T hx
          refine ⟨x, ?_, by rw [hm]; exact .int _ _⟩
          rw [putRowK, q2, ← Option.some.inj q]; rfl
        · rw [List.getElem?_append_right (by omega), hfl', ← hfl, ← List.getElem?_append_right (by omega)] at hx
          obtain ⟨x', q1, q2⟩ := o4 o x hx
          refine ⟨x', ?_, q2⟩
          rw [putRowK, cell?_putRow_other _ _ _ _ _ _ (.inr (.inr (by simp; omega)))]
          exact q1
      · have hC' : (Sort.ahead w n).heap[e.block]? = some (.cells C tC (lo, hi)) := hC
        refine ⟨putCells id e.off (flatK encT 2 d') C, tC, lo, hi, ?_, ?_, ?_⟩
        · simp only [putRowK, putRow, mapBlock, Array.getElem?_modify, if_true, hC', Option.map_some]; rfl
        · simpa [putCells] using hCs
        · simpa [putCells] using hCf
  -- blocks behind
  have s3 : Step μ (h.set b (.cells (d'.toList.flatMap Th.cells ++ rest) false op)) (putRowK encT 2 (Sort.ahead w n) e.block e.off d') μ _ (sortWorldK encT 2 w e.block e.off n d' os) :=
    Step.below s2.rel ⟨rfl, rfl, rfl, by simp [sortWorldK, grow], fun k' hk' => by simp [sortWorldK, grow, Array.getElem?_append_left hk']⟩
  refine ⟨μ, _, .tuple #[], .tuple #[], rfl, (s1.trans s2).trans s3, .any _, d'.toList, hperm, hsort, ?_, Upd.set hin _⟩
  have := hput (d'.toList.flatMap Th.cells) (by rw [hfl', hfl])
  unfold TO
  rw [hd'l]
  exact this
end
end Go.Proofs.Ytaahkamnpobofaa
