/- The law FreemapCounts: called, it comes to true; no condition. -/
import Derived.Test.YtklhioaokogpdaaFreeF
import Derived.Test.YtklhioaokogpdaaLawTakes
import Derived.Test.YtklhioaokogpdaaDraws
namespace Go.Proofs.Ytklhioaokogpdaa
open Go.Ab Go.Free
theorem unpk_pk (T : List Bool) : unpk T.length (pk T) = T := by
  apply List.ext_getElem
  · simp
  · intro i h1 h2
    have h3 : i / 8 < (pk T).length := by simp; omega
    have h4 := byteN_bit T (i / 8) (i % 8) (by omega)
    rw [bt_of T i h2] at h4
    have h5 := unpk_get T.length (pk T) i h2
    rw [List.getD_eq_getElem?_getD, List.getElem?_eq_getElem h1, Option.getD_some] at h5
    rw [h5, List.getD_eq_getElem?_getD, List.getElem?_eq_getElem h3, Option.getD_some, pk_nat, h4]
    cases T[i] <;> rfl
theorem IsMap.eq {l : List UInt8} {T U : List Bool} (a : IsMap l T) (b : IsMap l U) : T = U := by
  obtain ⟨h1, h2⟩ := a.inj b
  rw [← unpk_pk T, h1, h2, unpk_pk]
theorem claim_cnt (T : List Bool) (i : Int) : ((claimT T i).1 = 0 ∧ cnt (claimT T i).2 = cnt T + 1) ∨ (((claimT T i).1 = 1 ∨ (claimT T i).1 = 6) ∧ (claimT T i).2 = T) := by
  unfold claimT
  split
  · rename_i h
    have hi : i.toNat < T.length := by omega
    rw [List.getD_eq_getElem?_getD, List.getElem?_eq_getElem hi, Option.getD_some]
    cases hT : T[i.toNat] with
    | true => exact .inr ⟨.inr rfl, rfl⟩
    | false => exact .inl ⟨rfl, cnt_set_true T _ hi hT⟩
  · exact .inr ⟨.inl rfl, rfl⟩
theorem drop_cnt (T : List Bool) (i : Int) : ((dropT T i).1 = 0 ∧ cnt (dropT T i).2 + 1 = cnt T) ∨ (((dropT T i).1 = 1 ∨ (dropT T i).1 = 5) ∧ (dropT T i).2 = T) := by
  unfold dropT
  split
  · rename_i h
    have hi : i.toNat < T.length := by omega
    rw [List.getD_eq_getElem?_getD, List.getElem?_eq_getElem hi, Option.getD_some]
    cases hT : T[i.toNat] with
    | true => exact .inl ⟨rfl, cnt_set_false T _ hi hT⟩
    | false => exact .inr ⟨.inr rfl, rfl⟩
  · exact .inr ⟨.inl rfl, rfl⟩
theorem idxs_mem (T : List Bool) (i : Nat) (hi : i < (idxs T T.length).length) : (idxs T T.length)[i] < T.length ∧ tk T ((idxs T T.length)[i] : Nat) = true := by
  have h := List.getElem_mem hi
  generalize (idxs T T.length)[i] = x at h
  unfold idxs at h
  rw [List.mem_filter, List.mem_range] at h
  refine ⟨h.1, ?_⟩
  have h2 := h.2
  rw [List.getD_eq_getElem?_getD] at h2
  simp [tk, h2]
theorem idxs_lt (T : List Bool) (n i j : Nat) (hij : i < j) (hj : j < (idxs T n).length) : (idxs T n)[i] < (idxs T n)[j] := by
  have : (idxs T n).Pairwise (· < ·) := List.Pairwise.filter _ List.pairwise_lt_range
  exact List.pairwise_iff_getElem.1 this i j (by omega) hj hij
set_option maxHeartbeats 2000000 in
set_option maxRecDepth 4000 in
theorem counts_ev {h : Hp} {u w : Value} {l m : List Int} (n0 : Int) (hu : Row h 1 u l.length (l.map fun x => .int .i64 x)) (hl : l.length ≤ 140737488351232) (hw : Row h 1 w m.length (m.map fun x => .int .i64 x)) (hm : m.length ≤ 140737488351232) :
    EvA Try.prog 9 [.int .i64 n0, u, w] (fun r _ => r = .bool true) h := by
  refine EvA.body Try.func9 rfl (by kernel_rfl) (by simp) ?_
  apply Run.ok
  have hlen := hu.len (P := Try.prog) (t := 35) (e := 3) (by simp)
  have hlem := hw.len (P := Try.prog) (t := 35) (e := 3) (by simp)
  have wlm : IntKind.i64.wrap ((l.length : Int) + (m.length : Int)) = (l.length : Int) + (m.length : Int) := wrap_i64 (by omega) (by omega)
  simp
  refine after_call (works05_ev _) ?_
  rintro r h' ⟨rfl, rfl⟩
  by_cases c0 : (500 : Int) < (l.length : Int) + (m.length : Int)
  · simp [hlen, hlem, wlm, c0]
    refine after_call (works05_ev _) ?_
    rintro r h' ⟨rfl, rfl⟩
    simp
  · have hau : IntKind.u64.wrap n0 = n0 % 18446744073709551616 := wrap_u64_mod n0
    obtain ⟨n, hnn⟩ : ∃ n : Nat, (n0 % 18446744073709551616).tmod 5001 = (n : Nat) := ⟨((n0 % 18446744073709551616).tmod 5001).toNat, by
      have : 0 ≤ (n0 % 18446744073709551616).tmod 5001 := Int.tmod_nonneg _ (by omega)
      omega⟩
    have hn2 : n < 5001 := by
      have : (n0 % 18446744073709551616).tmod 5001 < 5001 := Int.tmod_lt_of_pos _ (by omega)
      omega
    have wn : IntKind.i64.wrap (n : Int) = (n : Int) := wrap_i64 (by omega) (by omega)
    simp [hlen, hlem, wlm, c0, hau, hnn, wn]
    refine after_call (new_ev (n : Int) _) ?_
    rintro r h1 ⟨sm1, hq⟩
    rw [if_pos (by omega)] at hq
    obtain ⟨b, v, rfl, m1⟩ := hq
    simp only [Int.toNat_natCast] at m1
    simp
    refine WpA.loop (fun k fr g => ∃ i T, k = l.length - i ∧ i ≤ l.length ∧ fr 0 = .int .i64 (n : Nat) ∧ fr 1 = u ∧ fr 2 = w ∧ fr 7 = .pointer (some ⟨b, 0, none⟩) ∧ fr 9 = .int .i64 (cnt T : Nat) ∧ fr 10 = .int .i64 (i : Nat) ∧ Same h' g ∧ List.length T = n ∧ FM g h'.length b v T)
      (k := l.length) ⟨0, _, by simp, by omega, by simp, by simp, by simp, by simp, by simp [cnt, List.count_replicate], by simp, sm1, by simp, m1⟩ ?_
    rintro k fr g ⟨i, T, rfl, hi, f0, f1, f2, f7, f9, f10, sm, hT, M⟩
    apply Run.ok
    have hug := hu.same sm
    have hlg := hug.len (P := Try.prog) (t := 35) (e := 3) (by simp)
    have hcl := cnt_le T
    by_cases c : i < l.length
    · have c' : (i : Int) < l.length := by omega
      have w1 : IntKind.i64.wrap ((i : Int) + 1) = (i : Int) + 1 := wrap_i64 (by omega) (by omega)
      have w2 : IntKind.i64.wrap ((cnt T : Int) + 1) = (cnt T : Int) + 1 := wrap_i64 (by omega) (by omega)
      have ia := Row.ia1 (P := Try.prog) (t := 35) (e := 3) hug (by simp) (by simp) c .i64
      have ld := Row.ld1 (P := Try.prog) (f := 3) hug (by simp) c
      rw [List.getElem?_map, List.getElem?_eq_getElem c] at ld
      simp only [Option.map_some] at ld
      generalize l[i] = x at ld
      simp [f0, f1, f2, f7, f9, f10, hlg, c', ia, ld, -load_ptr]
      refine after_call (claim_ev x M) ?_
      rintro r g2 ⟨rfl, m2, u2⟩
      have hcc := claim_cnt T x
      have hln := claim_len T x
      generalize (claimT T x) = p at hcc hln m2 ⊢
      obtain ⟨p1, T2⟩ := p
      simp only at hcc hln m2 ⊢
      rcases hcc with ⟨rfl, hc⟩ | ⟨rfl | rfl, rfl⟩
      · simp [f10, f9, w1, w2, -roundQ_normal, ↓rq]
        refine stop_intro ⟨l.length - (i + 1), by omega, i + 1, T2, rfl, by omega, by simp [f0], by simp [f1], by simp [f2], by simp [f7], by simp [hc], by simp, M.since sm u2, by rw [hln]; exact hT, m2⟩
      · simp [f10, f9, w1, w2, -roundQ_normal, ↓rq]
        refine stop_intro ⟨l.length - (i + 1), by omega, i + 1, T2, rfl, by omega, by simp [f0], by simp [f1], by simp [f2], by simp [f7], by simp [f9], by simp, M.since sm u2, hT, m2⟩
      · simp [f10, f9, w1, w2, -roundQ_normal, ↓rq]
        refine stop_intro ⟨l.length - (i + 1), by omega, i + 1, T2, rfl, by omega, by simp [f0], by simp [f1], by simp [f2], by simp [f7], by simp [f9], by simp, M.since sm u2, hT, m2⟩
    · have c' : ¬ (i : Int) < l.length := by omega
      simp [f0, f1, f2, f7, f9, f10, hlg, c']
      refine WpA.loop (fun k fr g => ∃ i T, k = m.length - i ∧ i ≤ m.length ∧ fr 0 = .int .i64 (n : Nat) ∧ fr 2 = w ∧ fr 7 = .pointer (some ⟨b, 0, none⟩) ∧ fr 9 = .int .i64 (cnt T : Nat) ∧ fr 11 = .int .i64 (i : Nat) ∧ Same h' g ∧ List.length T = n ∧ FM g h'.length b v T)
        (k := m.length) ⟨0, T, by simp, by omega, by simp [f0], by simp [f2], by simp [f7], by simp [f9], by simp, sm, hT, M⟩ ?_
      clear M hT hcl hlg hug sm f0 f1 f2 f7 f9 f10
      rintro k fr g ⟨i, T, rfl, hi, f0, f2, f7, f9, f11, sm, hT, M⟩
      apply Run.ok
      have hwg := hw.same sm
      have hlg := hwg.len (P := Try.prog) (t := 35) (e := 3) (by simp)
      have hcl := cnt_le T
      by_cases c : i < m.length
      · have c' : (i : Int) < m.length := by omega
        have w1 : IntKind.i64.wrap ((i : Int) + 1) = (i : Int) + 1 := wrap_i64 (by omega) (by omega)
        have w2 : IntKind.i64.wrap ((cnt T : Int) - 1) = (cnt T : Int) - 1 := wrap_i64 (by omega) (by omega)
        have ia := Row.ia1 (P := Try.prog) (t := 35) (e := 3) hwg (by simp) (by simp) c .i64
        have ld := Row.ld1 (P := Try.prog) (f := 3) hwg (by simp) c
        rw [List.getElem?_map, List.getElem?_eq_getElem c] at ld
        simp only [Option.map_some] at ld
        generalize m[i] = x at ld
        simp [f0, f2, f7, f9, f11, hlg, c', ia, ld, -load_ptr]
        refine after_call (drop_ev x M) ?_
        rintro r g2 ⟨rfl, m2, u2⟩
        have hcc := drop_cnt T x
        have hln := drop_len T x
        generalize (dropT T x) = p at hcc hln m2 ⊢
        obtain ⟨p1, T2⟩ := p
        simp only at hcc hln m2 ⊢
        rcases hcc with ⟨rfl, hc⟩ | ⟨rfl | rfl, rfl⟩
        · have hc' : (cnt T : Int) - 1 = (cnt T2 : Nat) := by omega
          rw [hc'] at w2
          simp [f11, f9, w1, w2, hc', -roundQ_normal, ↓rq]
          refine stop_intro ⟨m.length - (i + 1), by omega, i + 1, T2, rfl, by omega, by simp [f0], by simp [f2], by simp [f7], by simp, by simp, M.since sm u2, by rw [hln]; exact hT, m2⟩
        · simp [f11, f9, w1, w2, -roundQ_normal, ↓rq]
          refine stop_intro ⟨m.length - (i + 1), by omega, i + 1, T2, rfl, by omega, by simp [f0], by simp [f2], by simp [f7], by simp [f9], by simp, M.since sm u2, hT, m2⟩
        · simp [f11, f9, w1, w2, -roundQ_normal, ↓rq]
          refine stop_intro ⟨m.length - (i + 1), by omega, i + 1, T2, rfl, by omega, by simp [f0], by simp [f2], by simp [f7], by simp [f9], by simp, M.since sm u2, hT, m2⟩
      · have c' : ¬ (i : Int) < m.length := by omega
        simp [f0, f2, f7, f9, f11, hlg, c']
        refine after_call (list_ev M) ?_
        rintro r12 g2 ⟨A2, s2⟩
        have M2 := M.upd s2 (fun _ _ h => h)
        simp [f7]
        refine after_call (bytes_ev M2) ?_
        rintro rb g3 ⟨A3, s3⟩
        have M3 := M2.upd s3 (fun _ _ h => h)
        have hcb : cntB (T.length : Nat) = enc T.length := by
          unfold cntB; rw [if_neg (by omega)]; rfl
        rw [hcb] at A3
        have hen : (enc T.length).length ≤ 10 := by rw [enc_length]; exact grps_le _ (by omega)
        have hpl := pk_length T
        have hIs : IsMap (enc T.length ++ pk T) T := ⟨by omega, rfl⟩
        simp
        refine after_call (load_ev (Acc.sl A3) (by rw [List.length_append]; omega)) ?_
        rintro rx g4 ⟨s4, ⟨T', bx, vx, hI', rfl, X4⟩ | ⟨hno, _⟩⟩
        · have hTT := hI'.eq hIs
          subst hTT
          have M4 := M3.upd s4 (fun _ _ h => h)
          have A4 := (A2.same s3).same s4
          have hl4 := A4.row.len (P := Try.prog) (t := 35) (e := 3) (by simp)
          rw [idxs_cnt] at hl4
          simp [f0, f7, f9]
          refine WpA.drawnT [0, 1, 2, 3, 4, 5, 6, 7, 8, 9, 11, 12, 14, 10, 13, 15, 16, 17, 18, 20, 19, 21, 22, 23, 24, 25, 28, 26, 27, 29, 30, 31, 32, 33, 34, 37, 35, 36, 38, 39, 40] [[], [], [], [], [], [], [], [], [], [], [0, 1, 2, 3, 4, 5, 6, 7, 8, 9], [], [], [], [], [], [], [], [], [0, 1, 2, 3, 4, 5, 6, 7, 8, 9, 10, 11, 12, 13, 14, 15, 16, 17, 18], [], [0, 1, 2, 3, 4, 5, 6, 7, 8, 9, 10, 11, 12, 13, 14, 15, 16, 17, 18, 19, 20], [], [], [], [], [0, 1, 2, 3, 4, 5, 6, 7, 8, 9, 10, 11, 12, 13, 14, 15, 16, 17, 18, 19, 20, 21, 22, 23, 24, 25], [], [], [0, 1, 2, 3, 4, 5, 6, 7, 8, 9, 10, 11, 12, 13, 14, 15, 16, 17, 18, 19, 20, 21, 22, 23, 24, 25, 26, 28], [], [], [], [], [], [0, 1, 2, 3, 4, 5, 6, 7, 8, 9, 10, 11, 12, 13, 14, 15, 16, 17, 18, 19, 20, 21, 22, 23, 24, 25, 26, 27, 28, 29, 30, 31, 32, 33, 34], [0, 1, 2, 3, 4, 5, 6, 7, 8, 9, 10, 11, 12, 13, 14, 15, 16, 17, 18, 19, 20, 21, 22, 23, 24, 25, 26, 27, 28, 29, 30, 31, 32, 33, 34, 35], [], [0, 1, 2, 3, 4, 5, 6, 7, 8, 9, 10, 11, 12, 13, 14, 15, 16, 17, 18, 19, 20, 21, 22, 23, 24, 25, 26, 27, 28, 29, 30, 31, 32, 33, 34, 35, 36, 37]] [[], [0], [0, 1], [0, 1, 2], [0, 1, 2, 3], [0, 1, 2], [0, 1, 2, 3, 4, 5], [0, 1, 2, 3, 4, 5, 6], [0, 1, 2, 3, 4, 5, 6, 7], [0, 1, 2, 3, 4, 5, 6, 7, 8], [0, 1, 2, 3, 4, 5, 6, 7, 8, 9], [0, 1, 2, 3, 4, 5, 6, 7, 8], [0, 1, 2, 3, 4, 5, 6, 7, 8, 11], [0, 1, 2, 3, 4, 5, 6, 7, 8, 9, 10, 11, 12], [0, 1, 2, 3, 4, 5, 6, 7, 8], [0, 1, 2, 3, 4, 5, 6, 7, 8, 9, 10, 11, 12, 13, 14], [0, 1, 2, 3, 4, 5, 6, 7, 8, 9, 10, 11, 12, 13, 14, 15], [0, 1, 2, 3, 4, 5, 6, 7, 8, 9, 10, 11, 12, 13, 14, 15, 16], [0, 1, 2, 3, 4, 5, 6, 7, 8, 9, 10, 11, 12, 13, 14, 15, 16, 17], [0, 1, 2, 3, 4, 5, 6, 7, 8, 9, 10, 11, 12, 13, 14, 15, 16, 17, 18], [0, 1, 2, 3, 4, 5, 6, 7, 8, 9, 10, 11, 12, 13, 14, 15, 16, 17], [0, 1, 2, 3, 4, 5, 6, 7, 8, 9, 10, 11, 12, 13, 14, 15, 16, 17, 18, 19, 20], [0, 1, 2, 3, 4, 5, 6, 7, 8, 9, 10, 11, 12, 13, 14, 15, 16, 17, 18, 19, 20, 21], [0, 1, 2, 3, 4, 5, 6, 7, 8, 9, 10, 11, 12, 13, 14, 15, 16, 17, 18, 19, 20, 21, 22], [0, 1, 2, 3, 4, 5, 6, 7, 8, 9, 10, 11, 12, 13, 14, 15, 16, 17, 18, 19, 20, 21, 22, 23], [0, 1, 2, 3, 4, 5, 6, 7, 8, 9, 10, 11, 12, 13, 14, 15, 16, 17, 18, 19, 20, 21, 22, 23, 24], [0, 1, 2, 3, 4, 5, 6, 7, 8, 9, 10, 11, 12, 13, 14, 15, 16, 17, 18, 19, 20, 21, 22, 23, 24, 25], [0, 1, 2, 3, 4, 5, 6, 7, 8, 9, 10, 11, 12, 13, 14, 15, 16, 17, 18, 19, 20, 21, 22, 23, 24, 25, 26], [0, 1, 2, 3, 4, 5, 6, 7, 8, 9, 10, 11, 12, 13, 14, 15, 16, 17, 18, 19, 20, 21, 22, 23, 24], [0, 1, 2, 3, 4, 5, 6, 7, 8, 9, 10, 11, 12, 13, 14, 15, 16, 17, 18, 19, 20, 21, 22, 23, 24, 25, 26, 28], [0, 1, 2, 3, 4, 5, 6, 7, 8, 9, 10, 11, 12, 13, 14, 15, 16, 17, 18, 19, 20, 21, 22, 23, 24, 25, 26, 28, 29], [0, 1, 2, 3, 4, 5, 6, 7, 8, 9, 10, 11, 12, 13, 14, 15, 16, 17, 18, 19, 20, 21, 22, 23, 24, 25, 26, 27, 28, 29, 30], [0, 1, 2, 3, 4, 5, 6, 7, 8, 9, 10, 11, 12, 13, 14, 15, 16, 17, 18, 19, 20, 21, 22, 23, 24, 25, 26, 27, 28, 29, 30, 31], [0, 1, 2, 3, 4, 5, 6, 7, 8, 9, 10, 11, 12, 13, 14, 15, 16, 17, 18, 19, 20, 21, 22, 23, 24, 25, 26, 27, 28, 29, 30, 31, 32], [0, 1, 2, 3, 4, 5, 6, 7, 8, 9, 10, 11, 12, 13, 14, 15, 16, 17, 18, 19, 20, 21, 22, 23, 24, 25, 26, 27, 28, 29, 30, 31, 32, 33], [0, 1, 2, 3, 4, 5, 6, 7, 8, 9, 10, 11, 12, 13, 14, 15, 16, 17, 18, 19, 20, 21, 22, 23, 24, 25, 26, 27, 28, 29, 30, 31, 32, 33, 34], [0, 1, 2, 3, 4, 5, 6, 7, 8, 9, 10, 11, 12, 13, 14, 15, 16, 17, 18, 19, 20, 21, 22, 23, 24, 25, 26, 27, 28, 29, 30, 31, 32, 33, 34, 35], [0, 1, 2, 3, 4, 5, 6, 7, 8, 9, 10, 11, 12, 13, 14, 15, 16, 17, 18, 19, 20, 21, 22, 23, 24, 25, 26, 27, 28, 29, 30, 31, 32, 33], [0, 1, 2, 3, 4, 5, 6, 7, 8, 9, 10, 11, 12, 13, 14, 15, 16, 17, 18, 19, 20, 21, 22, 23, 24, 25, 26, 27, 28, 29, 30, 31, 32, 33, 34, 35, 36, 37], [0, 1, 2, 3, 4, 5, 6, 7, 8, 9, 10, 11, 12, 13, 14, 15, 16, 17, 18, 19, 20, 21, 22, 23, 24, 25, 26, 27, 28, 29, 30, 31, 32, 33, 34, 35, 36, 37, 38], [0, 1, 2, 3, 4, 5, 6, 7, 8, 9, 10, 11, 12, 13, 14, 15, 16, 17, 18, 19, 20, 21, 22, 23, 24, 25, 26, 27, 28, 29, 30, 31, 32, 33, 34, 35, 36, 37, 38, 39]] (by kernel_rfl) (by decide +kernel) (by decide +kernel) (by decide +kernel) ?_
          simp [f0, f7, f9, hl4]
          refine after_call (free_ev M4) ?_
          rintro r g5 ⟨rfl, rfl⟩
          have hcT := cnt_le T'
          have wF : IntKind.i64.wrap ((T'.length : Int) - (cnt T' : Int) + (cnt T' : Int)) = (n : Int) := by rw [wrap_i64 (by omega) (by omega)]; omega
          have wF' : IntKind.i64.wrap (T'.length : Int) = (n : Int) := by rw [wrap_i64 (by omega) (by omega)]; omega
          simp [f0, f7, f9, hl4, wF, wF']
          refine after_call (free_ev X4) ?_
          rintro r g6 ⟨rfl, rfl⟩
          simp [f7]
          refine after_call (free_ev M4) ?_
          rintro r g7 ⟨rfl, rfl⟩
          simp [f7]
          refine after_call (bytes_ev X4) ?_
          rintro y1 g8 ⟨A8, s8⟩
          have M8 := M4.upd s8 (fun _ _ h => h)
          have st8 := Bytes.str (P := Try.prog) (t := 22) (u := 9) (e := 5) A8.row (by simp) (by simp) (by simp)
          simp [f7, st8]
          refine after_call (bytes_ev M8) ?_
          rintro y2 g9 ⟨A9, s9⟩
          have M9 := M8.upd s9 (fun _ _ h => h)
          have st8' := Bytes.str (P := Try.prog) (t := 22) (u := 9) (e := 5) (A8.same s9).row (by simp) (by simp) (by simp)
          have st9 := Bytes.str (P := Try.prog) (t := 22) (u := 9) (e := 5) A9.row (by simp) (by simp) (by simp)
          simp [f7, st8', st9]
          refine after_call (copy_ev M9) ?_
          rintro y3 g10 ⟨s10, b3, v3, rfl, C10⟩
          have M10 := M9.upd s10 (fun _ _ h => h)
          simp [f7]
          refine after_call (free_ev C10) ?_
          rintro r g11 ⟨rfl, rfl⟩
          simp [f7]
          refine after_call (free_ev M10) ?_
          rintro r g12 ⟨rfl, rfl⟩
          have X10 := ((X4.upd s8 (fun _ _ h => h)).upd s9 (fun _ _ h => h)).upd s10 (fun _ _ h => h)
          have A10 := ((A4.same s8).same s9).same s10
          simp [f7]
          refine WpA.loop (fun k fr g => ∃ i, k = cnt T' - i ∧ i ≤ cnt T' ∧ fr 7 = .pointer (some ⟨b, 0, none⟩) ∧ fr 12 = r12 ∧ fr 13 = .pointer (some ⟨bx, 0, none⟩) ∧ fr 15 = .int .i64 (i : Nat) ∧ g = g12)
            (k := cnt T') ⟨0, by simp, by omega, by simp [f7], by simp, by simp, by simp, rfl⟩ ?_
          rintro k fr g13 ⟨i, rfl, hi, f7, f12, f13, f15, rfl⟩
          apply Run.ok
          have hlA := A10.row.len (P := Try.prog) (t := 35) (e := 3) (by simp)
          rw [idxs_cnt] at hlA
          by_cases ci : i < cnt T'
          · have ci' : (i : Int) < cnt T' := by omega
            have w1 : IntKind.i64.wrap ((i : Int) + 1) = (i : Int) + 1 := wrap_i64 (by omega) (by omega)
            have cI : i < (idxs T' T'.length).length := by rw [idxs_cnt]; exact ci
            have ia := Row.ia1 (P := Try.prog) (t := 35) (e := 3) A10.row (by simp) (by simp) cI .i64
            have ld := Row.ld1 (P := Try.prog) (f := 3) A10.row (by simp) cI
            rw [List.getElem?_map, List.getElem?_eq_getElem cI] at ld
            simp only [Option.map_some, intV] at ld
            have htk := (idxs_mem T' i cI).2
            have hlt : ∀ q, q + 1 = i → ∃ y, y < (idxs T' T'.length)[i] ∧ indexAddrA Try.prog 35 r12 (.int .i64 (q : Nat)) = some (.pointer (some ⟨rbl r12, rof r12 + q, none⟩)) ∧ loadA Try.prog 3 (.pointer (some ⟨rbl r12, rof r12 + q, none⟩)) g13 = some (.int .i64 (y : Nat)) := fun q hq => by
              have cq : q < (idxs T' T'.length).length := by omega
              have ia := Row.ia1 (P := Try.prog) (t := 35) (e := 3) A10.row (by simp) (by simp) cq .i64
              have ld := Row.ld1 (P := Try.prog) (f := 3) A10.row (by simp) cq
              rw [List.getElem?_map, List.getElem?_eq_getElem cq] at ld
              simp only [Option.map_some, intV] at ld
              exact ⟨_, idxs_lt T' _ q i (by omega) cI, ia, ld⟩
            generalize (idxs T' T'.length)[i] = x at ld htk hlt
            simp [f7, f12, f13, f15, hlA, ci', -load_ptr]
            refine WpA.drawnT [0, 1, 2, 3, 4, 5, 6, 7, 8, 9, 10, 11, 12, 13, 14, 15, 16, 17, 18, 19, 20, 21, 22, 23, 24, 25, 26, 27, 28, 29, 30, 31] [[], [], [], [], [], [0, 1, 2, 3, 4], [], [], [], [], [], [], [], [0, 1, 2, 3, 4, 5, 6, 7, 8, 9, 10, 11, 12]] [[], [], [], [1, 2], [1, 2, 3], [0, 1, 2, 3, 4], [0, 1, 2, 3, 4, 5], [0, 1, 2, 3, 4, 5, 6], [0, 1, 2, 3, 4, 5, 6, 7], [0, 1, 2, 3, 4, 5, 6, 7], [0, 1, 2, 3, 4, 5, 6, 7], [0, 1, 2, 3, 4, 5, 6, 7, 9, 10], [0, 1, 2, 3, 4, 5, 6, 7, 9, 10, 11], [0, 1, 2, 3, 4, 5, 6, 7, 8, 9, 10, 11, 12], [0, 1, 2, 3, 4, 5, 6, 7, 8, 9, 10, 11, 12, 13], [0, 1, 2, 3, 4, 5, 6, 7, 8, 9, 10, 11, 12, 13, 14], [0, 1, 2, 3, 4, 5, 6, 7, 8, 9, 10, 11, 12, 13, 14, 15], [0, 1, 2, 3, 4, 5, 6, 7, 8, 9, 10, 11, 12, 13, 14, 15, 16], [0, 1, 2, 3, 4, 5, 6, 7, 8, 9, 10, 11, 12, 13, 14, 15, 16, 17], [0, 1, 2, 3, 4, 5, 6, 7, 8, 9, 10, 11, 12, 13, 14, 15, 16, 17, 18], [0, 1, 2, 3, 4, 5, 6, 7, 8, 9, 10, 11, 12, 13, 14, 15, 16, 17, 18, 19], [0, 1, 2, 3, 4, 5, 6, 7, 8, 9, 10, 11, 12, 13, 14, 15, 16, 17, 18, 19], [0, 1, 2, 3, 4, 5, 6, 7, 8, 9, 10, 11, 12, 13, 14, 15, 16, 17, 18, 19, 21], [0, 1, 2, 3, 4, 5, 6, 7, 8, 9, 10, 11, 12, 13, 14, 15, 16, 17, 18, 19, 20, 21, 22], [0, 1, 2, 3, 4, 5, 6, 7, 8, 9, 10, 11, 12, 13, 14, 15, 16, 17, 18, 19, 20, 21, 22, 23], [0, 1, 2, 3, 4, 5, 6, 7, 8, 9, 10, 11, 12, 13, 14, 15, 16, 17, 18, 19], [0, 1, 2, 3, 4, 5, 6, 7, 8, 9, 10, 11, 12, 13, 14, 15, 16, 17, 18, 19], [0, 1, 2, 3, 4, 5, 6, 7, 8, 9, 10, 11, 12, 13, 14, 15, 16, 17, 18, 19, 25, 26], [0, 1, 2, 3, 4, 5, 6, 7, 8, 9, 10, 11, 12, 13, 14, 15, 16, 17, 18, 19, 25, 26, 27], [0, 1, 2, 3, 4, 5, 6, 7, 8, 9, 10, 11, 12, 13, 14, 15, 16, 17, 18, 19, 20, 21, 22, 23, 24, 25, 26, 27, 28], [0, 1, 2, 3, 4, 5, 6, 7, 8, 9, 10, 11, 12, 13, 14, 15, 16, 17, 18, 19, 20, 21, 22, 23, 24, 25, 26, 27, 28, 29], [0, 1, 2, 3, 4, 5, 6, 7, 8, 9, 10, 11, 12, 13, 14, 15, 16, 17, 18, 19, 20, 21, 22, 23, 24, 25, 26, 27, 28, 29, 30]] (by kernel_rfl) (by decide +kernel) (by decide +kernel) (by decide +kernel) ?_
            simp [f7, f12, f13, f15, ia, ld, -load_ptr]
            refine after_call (taken_ev (x : Int) M10) ?_
            rintro r g14 ⟨rfl, rfl⟩
            simp [f7, f12, f13, f15, ia, ld, htk, -load_ptr]
            refine after_call (taken_ev (x : Int) X10) ?_
            rintro r g15 ⟨rfl, rfl⟩
            by_cases i0 : 0 < i
            · obtain ⟨q, hq⟩ : ∃ q, q + 1 = i := ⟨i - 1, by omega⟩
              obtain ⟨y, hy, iay, ldy⟩ := hlt q hq
              have wq : IntKind.i64.wrap ((i : Int) - 1) = (q : Int) := by rw [wrap_i64 (by omega) (by omega)]; omega
              have hy' : ¬ x ≤ y := by omega
              simp [f7, f12, f13, f15, ia, ld, htk, i0, wq, iay, ldy, hy', w1, -load_ptr, -roundQ_normal, ↓rq]
              refine stop_intro ⟨cnt T' - (i + 1), by omega, i + 1, rfl, by omega, by simp [f7], by simp [f12], by simp [f13], by simp, rfl⟩
            · have h0 : i = 0 := by omega
              subst h0
              simp [f7, f12, f13, f15, ia, ld, htk, w1, -load_ptr, -roundQ_normal, ↓rq]
              refine stop_intro ⟨cnt T' - 1, by omega, 1, rfl, by omega, by simp [f7], by simp [f12], by simp [f13], by simp, rfl⟩
          · have ci' : ¬ (i : Int) < cnt T' := by omega
            simp [f7, f12, f13, f15, hlA, ci']
        · exact absurd hIs (hno T)
theorem freemapCounts_ev (h : Hp) (vs : List Value) (dts : List Dt) (hr : RepAll Try.prog h 6 [3, 35, 35] vs dts) : EvA Try.prog 9 vs (fun r _ => r = .bool true) h := by
  obtain ⟨a, vs, d, ds, rfl, rfl, h1, hr⟩ := hr.cons
  obtain ⟨b, vs, e, ds, rfl, rfl, h2, hr⟩ := hr.cons
  obtain ⟨c, vs, f, ds, rfl, rfl, h3, hr⟩ := hr.cons
  rw [hr.nil]
  obtain ⟨n, rfl, n1, n2⟩ := h1.int (q := .i64) (by simp)
  obtain ⟨l, l1, l2, l3⟩ := h2.ints (q := .i64) (e := 3) (by simp) (by simp) (by kernel_rfl)
  obtain ⟨m, m1, m2, m3⟩ := h3.ints (q := .i64) (e := 3) (by simp) (by simp) (by kernel_rfl)
  exact counts_ev n (l1.row (by simp)) l2 (m1.row (by simp)) m2
end Go.Proofs.Ytklhioaokogpdaa
