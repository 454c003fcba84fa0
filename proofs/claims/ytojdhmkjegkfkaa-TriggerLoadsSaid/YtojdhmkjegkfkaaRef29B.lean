/- The document's events: Take, Bytes, Same; no condition. -/
import Derived.Test.YtojdhmkjegkfkaaRef29A
namespace Go.Proofs.Ytojdhmkjegkfkaa
open Go.Ab
theorem RE.put {h0 g : Hp} {k b : Nat} {v v' : Value} {l' : List Ev} (s : Same h0 g) (hb : b < h0.length) (hkb : k ≤ b) (row : Sl g 2 v' l'.length (l'.flatMap Ev.cells)) (ab : ∀ j, inRow v' j → h0.length ≤ j ∧ j < g.length) (hl : l'.length ≤ 8) :
    ∃ w', RE (g.set b (.cells [v'] false none)) k b w' l' ∧ Upd (ownE b v) h0 (g.set b (.cells [v'] false none)) ∧ ∀ j, inRow w' j → inRow v j ∨ h0.length ≤ j := by
  have hg := s.len
  refine ⟨v', ⟨List.getElem?_set_self (by omega), hkb, row.upd (Upd.set (S := (· = b)) rfl _) (fun j hj e => by have := (ab j hj).1; omega), fun j hj => ?_, fun j hj => by have := (ab j hj).1; omega, hl⟩, ?_, fun j hj => .inr (ab j hj).1⟩
  · have := ab j hj
    rw [List.length_set]; omega
  · exact Upd.trans (Upd.mono (S := fun _ => False) s (fun _ _ h => absurd h id)) (Upd.set (S := (· = b)) rfl _) (fun j _ hj => .inl hj)
set_option maxHeartbeats 1000000 in
theorem rtake_ev {h : Hp} {k b : Nat} {v : Value} {l : List Ev} (s : List UInt8) (hs : s.length ≤ 140737488355320) (p : Int) (e : RE h k b v l) (hk : k ≤ h.length) :
    EvA Try.prog 39 [.pointer (some ⟨b, 0, none⟩), .string (bs s), .int .i64 p] (fun r h' => r = .int .i64 (takeE l s p).1 ∧ ∃ v', RE h' k b v' (takeE l s p).2 ∧ Upd (ownE b v) h h' ∧ (∀ j, inRow v' j → inRow v j ∨ h.length ≤ j)) h := by
  refine EvA.body Try.func39 rfl (by kernel_rfl) (by simp) ?_
  apply Run.ok
  simp
  refine after_call (rword_ev s hs _) ?_
  rintro r h' ⟨rfl, rfl⟩
  have same : ∀ c, (takeE l s p) = (c, l) → ∃ a', RE h' k b a' (takeE l s p).2 ∧ Upd (ownE b v) h' h' ∧ (∀ j, inRow a' j → inRow v j ∨ h'.length ≤ j) := fun c hc => ⟨v, by rw [hc]; exact e, Upd.refl, fun j hj => .inl hj⟩
  cases hw : wordB s with
  | false =>
    have hc : takeE l s p = (63, l) := by simp [takeE, hw]
    simp
    exact ⟨by rw [hc], same _ hc⟩
  | true =>
    by_cases c1 : p < 0
    · have hc : takeE l s p = (1, l) := by simp [takeE, hw, c1]
      simp [c1]
      exact ⟨by rw [hc], same _ hc⟩
    · by_cases c2 : 2147483647 < p
      · have hc : takeE l s p = (1, l) := by simp [takeE, hw, c2]
        simp [c1, c2]
        exact ⟨by rw [hc], same _ hc⟩
      · simp [c1, c2]
        refine after_call (rseen_ev s e) ?_
        rintro r h2 ⟨rfl, rfl⟩
        have hsa := seenE_any l s
        generalize (seenE l s).1 = q1
        generalize hq2 : (seenE l s).2 = q2 at hsa
        cases q2 with
        | true =>
          have hc : takeE l s p = (6, l) := by simp only [takeE, hw, ← hsa]; simp [c1, c2]
          simp
          exact ⟨by rw [hc], same _ hc⟩
        | false =>
          have hc : takeE l s p = (0, (if l.length = 8 then l.drop 1 else l) ++ [⟨s, p⟩]) := by simp only [takeE, hw, ← hsa]; simp [c1, c2]
          rw [hc]
          have hl := e.len
          have e1 := e.same (Same.new [.cells [] false none])
          have l0 := e1.l0
          obtain ⟨v1, g1, q1, A1, s1, n1⟩ := Acc.appendLit (P := Try.prog) (h := h2 ++ [.cells [] false none]) (z := 2) (k := h2.length) (b := h2.length) (t := 61) (tx := 61) (e := 94) (by_ := 24) (dx := .slice 94) (Nat.le_refl _) (by simp) (by simp) (by simp) (by simp) rfl e1.row.1.2.1 (by rw [evCells_len]) (by omega) (by omega)
          have s01 : Same h2 g1 := Same.trans (Same.new _) s1
          obtain ⟨v3, g3, q3, A3, u3, n3⟩ := (A1.same (Same.new [.cells [.string (bs s), .int .i64 p] false none])).append (P := Try.prog) (by_ := 24) (t := 61) (tx := 61) (e := 94) (x := .slice (some ⟨g1.length, 0, none⟩) 1 1) (m := 1) (ys := [.string (bs s), .int .i64 p]) (by have := s01.len; simp; omega) (by simp) (by simp) (by simp; rfl) (by simp [isSrc]) (by simp [srcA]) (by simp) rfl (by omega) (by omega)
          have s03 : Same h2 g3 := Upd.trans (Same.trans s01 (Same.new [.cells [.string (bs s), .int .i64 p] false none])) u3 fun j hj hin => by have := (A1.above j hin).1; omega
          have hlen3 := A3.row.len (P := Try.prog) (t := 61) (e := 94) (by simp)
          have e3 := e.same s03
          have hB3 := e3.at_
          have hbl := hp_lt e.at_
          have hb3 := hp_lt hB3
          have hlc : l.flatMap Ev.cells ++ [.string (bs s), .int .i64 p] = (l ++ [(⟨s, p⟩ : Ev)]).flatMap Ev.cells := by rw [List.flatMap_append]; rfl
          rw [hlc] at A3
          by_cases h8 : l.length = 8
          · rw [if_pos h8]
            have h8' : (8 : Int) < ((l.length + 1 : Nat) : Int) := by omega
            obtain ⟨v4, p1, p2, p3⟩ := Sl.cut (P := Try.prog) (t := 61) (e := 94) (lo := some (.int .i64 1)) (hi := none) (l := 1) (m := l.length + 1) A3.sl (by simp) (by simp) (fun c hc => by rw [bnds_l, if_pos (by omega)]; simp) (by omega) (Nat.le_refl _)
            have p1' := p1 _ Same.refl
            have hdr : (List.drop (1 * 2) ((l ++ [(⟨s, p⟩ : Ev)]).flatMap Ev.cells)).take ((l.length + 1 - 1) * 2) = (l.drop 1 ++ [(⟨s, p⟩ : Ev)]).flatMap Ev.cells := by
              rw [evCells_drop, List.drop_append_of_le_length (by omega), List.take_of_length_le (by rw [evCells_len]; simp; omega)]
            rw [hdr] at p2
            have hc4 := (Row.one p2.1).1
            have ho4 := (Row.one p2.1).2
            obtain ⟨n9, hn9⟩ : ∃ n9 : Nat, n9 = l.length + 1 := ⟨_, rfl⟩
            rw [← hn9] at hlen3 h8'
            simp [l0, q1, q3, zeros, capO, spl, hlen3, h8', p1', storeA, hB3, hc4, ho4, -load_ptr, -store_ptr]
            simp only [← List.drop_one]
            exact RE.put s03 hbl e.above (by rw [show (l.drop 1 ++ [(⟨s, p⟩ : Ev)]).length = l.length + 1 - 1 by simp; omega]; exact p2) (fun j hj => A3.above j (p3 j hj)) (by rw [List.length_append, List.length_drop]; simp; omega)
          · rw [if_neg h8]
            have h8' : ¬ (8 : Int) < ((l.length + 1 : Nat) : Int) := by omega
            have hc4 := (Row.one A3.row).1
            have ho4 := (Row.one A3.row).2
            obtain ⟨n9, hn9⟩ : ∃ n9 : Nat, n9 = l.length + 1 := ⟨_, rfl⟩
            rw [← hn9] at hlen3 h8'
            simp [l0, q1, q3, zeros, capO, spl, hlen3, h8', storeA, hB3, hc4, ho4, -load_ptr, -store_ptr]
            exact RE.put s03 hbl e.above (by rw [List.length_append]; exact A3.sl) (fun j hj => A3.above j hj) (by simp; omega)
set_option maxHeartbeats 1000000 in
theorem rbytes_ev {h : Hp} {k b : Nat} {v : Value} {l : List Ev} (e : RE h k b v l) (ok : EvOk l) :
    EvA Try.prog 42 [.pointer (some ⟨b, 0, none⟩)] (fun r h' => BAcc h.length h' r (evsB l) ∧ Same h h') h := by
  refine EvA.body Try.func42 rfl (by kernel_rfl) (by simp) ?_
  apply Run.ok
  have hl := e.len
  have l0 := e.l0
  have tl := e.tl
  simp [l0, tl, -load_ptr]
  refine after_call (rcount_lay_ev (.slice none 0 0) [] (l.length : Nat) h Row.nil (by simp)) ?_
  rintro r h1 ⟨A1, s1⟩
  have hcb : cntB (l.length : Nat) = enc l.length := by
    unfold cntB; rw [if_neg (by omega)]; rfl
  have hen : (enc l.length).length ≤ 10 := by rw [enc_length]; exact grps_le _ (by omega)
  rw [List.nil_append, hcb] at A1
  simp
  refine WpA.loop (fun z fr g => ∃ i a, z = l.length - i ∧ i ≤ l.length ∧ fr 0 = .pointer (some ⟨b, 0, none⟩) ∧ fr 3 = a ∧ fr 4 = .int .i64 (i : Nat) ∧ Same h g ∧ BAcc h.length g a (enc l.length ++ (l.take i).flatMap evB))
    (k := l.length) ⟨0, r, by simp, by omega, by simp, by simp, by simp, s1, by simpa using A1⟩ ?_
  rintro z fr g ⟨i, a, rfl, hi, f0, f3, f4, sm, A⟩
  apply Run.ok
  have eg := e.same sm
  have l0 := eg.l0
  have tl := eg.tl
  by_cases c : i < l.length
  · have c' : (i : Int) < l.length := by omega
    have w1 : IntKind.i64.wrap ((i : Int) + 1) = (i : Int) + 1 := wrap_i64 (by omega) (by omega)
    have ia := eg.t.ia (P := Try.prog) (t := 61) (e := 94) (by simp) (by simp) c .i64
    have ld0 := eg.t.cell0 (P := Try.prog) (f := 9) (by simp) c (by omega)
    simp only [Ev.cells, List.getElem?_cons_zero, str] at ld0
    have htk : l.take (i + 1) = l.take i ++ [l[i]] := by rw [List.take_add_one, List.getElem?_eq_getElem c]; rfl
    have hm : l[i] ∈ l := List.getElem_mem _
    have hw := ok.word _ hm
    have hp := ok.pipe _ hm
    have hwl := word_len hw
    have hbl : (l.take i).length ≤ 8 := by simp; omega
    have hfl : ((l.take i).flatMap evB).length ≤ 84 * 8 := by
      have := evsB_len (l := l.take i) ⟨fun x hx => ok.word x (List.mem_of_mem_take hx), fun x hx => ok.pipe x (List.mem_of_mem_take hx), by rw [List.map_take]; exact ok.nodup.sublist (List.take_sublist _ _)⟩
      omega
    simp [f0, f3, f4, l0, tl, c', ia, ld0, -load_ptr]
    refine after_call (rstr_lay_ev a _ (bs l[i].id) g A.row (by rw [List.length_append]; omega) (by simp; omega)) ?_
    rintro r3 g3 ⟨A3, s3⟩
    have hs1 : (bs l[i].id).size = l[i].id.length := by simp
    have hs2 : (bs l[i].id).data.toList = l[i].id := by simp [bs]
    rw [hs1, hs2] at A3
    have hen2 : (enc l[i].id.length).length ≤ 10 := by rw [enc_length]; exact grps_le _ (by omega)
    have e3 := eg.same s3
    have l03 := e3.l0
    have ia3 := e3.t.ia (P := Try.prog) (t := 61) (e := 94) (by simp) (by simp) c .i64
    have ld1 := e3.t.cell (P := Try.prog) (f := 3) (j := 1) (by simp) c (by omega)
    simp only [Ev.cells, List.getElem?_cons_succ, List.getElem?_cons_zero] at ld1
    simp [f0, f4, l03, ia3, ld1, -load_ptr]
    refine after_call (rcount_lay_ev r3 _ l[i].pipe g3 A3.row (by simp only [List.length_append]; omega)) ?_
    rintro r4 g4 ⟨A4, s4⟩
    have hcp : cntB l[i].pipe = enc l[i].pipe.toNat := by unfold cntB; rw [if_neg (by omega)]
    rw [hcp] at A4
    simp [f4, w1, -roundQ_normal, ↓rq]
    refine stop_intro ⟨l.length - (i + 1), by omega, i + 1, r4, rfl, by omega, by simp [f0], by simp, by simp, Same.trans (Same.trans sm s3) s4, ?_⟩
    have hd : h.length ≤ g3.length := (Same.trans sm s3).len
    have hx : enc l.length ++ (l.take (i + 1)).flatMap evB = enc l.length ++ (l.take i).flatMap evB ++ enc l[i].id.length ++ l[i].id ++ enc l[i].pipe.toNat := by
      rw [htk, List.flatMap_append, List.flatMap_singleton, evB]; simp only [List.append_assoc]
    rw [hx]
    exact Acc.down hd A4
  · have c' : ¬ (i : Int) < l.length := by omega
    rw [List.take_of_length_le (by omega)] at A
    simp [f0, f3, f4, l0, tl, c', -load_ptr]
    exact ⟨A, sm⟩
end Go.Proofs.Ytojdhmkjegkfkaa
